/- Texts on the way to 'DiffOne', one behind the other (part 3). -/
import Derived.Test.YtbhgocpenbibgaaMDiffOne1
import Derived.Test.YtbhgocpenbibgaaMDiffOne2
import Derived.Deep.Slices
import Derived.SizedLaws
import Derived.ChangeSame
import Derived.ChangeShapes
import Derived.ChangeAt
import Derived.WideShapes
/- Paths at which two trees differ: the program's and the reference's come to one row. -/
set_option linter.unusedVariables false
namespace Go.Proofs.Ytbhgocpenbibgaa.PX
open Go.RowKit Go.Proofs.YtbhgocpenbibgaaW.PrintWords Go.Proofs.YtbhgocpenbibgaaW.PrintLast Go.Proofs.YtbhgocpenbibgaaW.PrintMore Go.Proofs.Ytbhgocpenbibgaa
def getR : Tr → List ByteArray → Tr × Bool
  | t, [] => (t, true)
  | t, n :: p => match kid t n with
    | some x => getR x p
    | none => ([], false)
theorem Ok.kidle {W d : Nat} {t x : Tr} {n : ByteArray} (h : Ok W d t) (hk : PX.kid t n = some x) : Ok W d x := by
  cases d with
  | zero => rw [show t = [] from h] at hk; cases hk
  | succ d => exact (h.kid hk).succ
theorem find_eq {W d : Nat} (hW : W ≤ 1000000) {t : Tr} (n : ByteArray) (h : Ok W d t) : tree_find.f t n = some (((pos t n : Nat) : Int), hasAt t n) := by
  unfold tree_find.f
  have := h.length
  rw [if_pos ⟨by omega, h.sorted⟩]
theorem get_ev {W : Nat} (hW : W ≤ 1000000) {d : Nat} {t : Tr} (p : List ByteArray) (ht : Ok W d t) (hp : p.length ≤ 1000000) : Ev (fun k => tree_Get.f k t p) (getR t p) := by
  have loop : ∀ (m i : Nat) (t : Tr), i + m = p.length → Ok W d t → Ev (fun k => tree_Get.l0 k t p (p.length : Int) (i : Int)) (getR t (p.drop i)) := by
    intro m
    induction m with
    | zero =>
      intro i t hi ht
      rw [List.drop_eq_nil_of_le (by omega)]
      obtain ⟨K, hK⟩ := own_ev hW ht
      refine ⟨K + 1, fun k hk => ?_⟩
      obtain ⟨k, rfl⟩ : ∃ m, k = m + 1 := ⟨k - 1, by omega⟩
      replace hK : tree_own.f k t = some t := hK k (by omega)
      show tree_Get.l0 (k + 1) t p (p.length : Int) (i : Int) = _
      simp only [tree_Get.l0]
      rw [if_neg (by omega), hK, Option.bind_some]
      rfl
    | succ m ih =>
      intro i t hi ht
      have hil : i < p.length := by omega
      rw [List.drop_eq_getElem_cons hil]
      have hf := find_eq hW p[i] ht
      cases e : kid t p[i] with
      | none =>
        have hh : hasAt t p[i] = false := by rw [hasAt_kid, e]; rfl
        refine Ev.step (f := fun _ => some ([], false)) (fun k => ?_) (by rw [getR, e]; exact Ev.now _)
        simp only [tree_Get.l0]
        rw [if_pos (by omega), if_pos (by omega), if_pos (by omega), rdOf_nat hil, hf, Option.bind_some, hh, if_neg Bool.false_ne_true]
      | some x =>
        have hh : hasAt t p[i] = true := by rw [hasAt_kid, e]; rfl
        obtain ⟨h1, _, h3⟩ := kid_pos t p[i] x e
        refine Ev.step (f := fun k => tree_Get.l0 k x p (p.length : Int) ((i + 1 : Nat) : Int)) (fun k => ?_) (by rw [getR, e]; exact ih (i + 1) x (by omega) (ht.kidle e))
        simp only [tree_Get.l0]
        rw [if_pos (by omega), if_pos (by omega), if_pos (by omega), rdOf_nat hil, hf, Option.bind_some, hh, if_pos rfl, if_pos (by omega), if_pos (by omega), rdT_nat h1, h3, wrap_succ (by omega)]
  exact loop p.length 0 t (by omega) ht
theorem getR_one (t : Tr) (n : ByteArray) : getR t [n] = ((kid t n).getD [], (kid t n).isSome) := by
  rw [getR]
  cases kid t n <;> rfl
/-! ### The row of paths -/
def stepP (rec : Tr → Tr → List (List ByteArray)) (a b : Tr) (n : ByteArray) : List (List ByteArray) :=
  match kid a n, kid b n with
  | some x, some y => (rec x y).map (n :: ·)
  | _, _ => [[n]]
def pathsM : Nat → Tr → Tr → List (List ByteArray)
  | 0, _, _ => []
  | d + 1, a, b => (namesOf [a, b]).flatMap (stepP (pathsM d) a b)
theorem names2_length {W d : Nat} {a b : Tr} (ha : Ok W d a) (hb : Ok W d b) : ([a, b].flatMap nms).length ≤ 2 * W := by
  have h1 := ha.length
  have h2 := hb.length
  simp [nms]
  omega
theorem stepP_length {W d : Nat} (hW : 0 < W) (ih : ∀ a b, Ok W d a → Ok W d b → (pathsM d a b).length ≤ (2 * W) ^ d) {a b : Tr} (ha : Ok W (d + 1) a) (hb : Ok W (d + 1) b) (n : ByteArray) : (stepP (pathsM d) a b n).length ≤ (2 * W) ^ d := by
  have h1 : 1 ≤ (2 * W) ^ d := Nat.one_le_pow _ _ (by omega)
  unfold stepP
  split
  · rename_i x y hx hy
    rw [List.length_map]
    exact ih x y (ha.kid hx) (hb.kid hy)
  · simpa using h1
theorem flatMap_length_le {α β : Type} (f : α → List β) (B : Nat) : ∀ l : List α, (∀ x ∈ l, (f x).length ≤ B) → (l.flatMap f).length ≤ l.length * B
  | [], _ => by simp
  | x :: l, h => by
    have h1 := h x List.mem_cons_self
    have h2 := flatMap_length_le f B l (fun y hy => h y (List.mem_cons_of_mem _ hy))
    rw [List.flatMap_cons, List.length_append, List.length_cons, Nat.add_mul]
    omega
theorem pathsM_length {W : Nat} (hW : 0 < W) : ∀ {d : Nat} (a b : Tr), Ok W d a → Ok W d b → (pathsM d a b).length ≤ (2 * W) ^ d
  | 0, _, _, _, _ => by simp [pathsM]
  | d + 1, a, b, ha, hb => by
    have h1 := flatMap_length_le (stepP (pathsM d) a b) ((2 * W) ^ d) (namesOf [a, b]) (fun n _ => stepP_length hW (fun a b => pathsM_length hW a b) ha hb n)
    have h2 := namesOf_length [a, b]
    have h3 := names2_length ha hb
    rw [pathsM, Nat.pow_succ, Nat.mul_comm ((2 * W) ^ d)]
    exact Nat.le_trans h1 (Nat.mul_le_mul_right _ (by omega))
theorem mem_namesOf {ts : List Tr} {n : ByteArray} : n ∈ namesOf ts ↔ ∃ t ∈ ts, tl n ∈ nms t := by
  unfold namesOf
  rw [List.mem_map]
  constructor
  · rintro ⟨s, hs, rfl⟩
    rw [tl_ba]
    exact List.mem_flatMap.1 (ofL_mem.1 hs)
  · intro h
    exact ⟨tl n, ofL_mem.2 (List.mem_flatMap.2 h), ba_tl n⟩
theorem mem_nms {t : Tr} (ht : Sorted t) {n : ByteArray} : tl n ∈ nms t ↔ (kid t n).isSome = true := by
  unfold nms
  rw [List.mem_map]
  constructor
  · rintro ⟨x, hx, h⟩
    have h1 := kid_mem ht hx
    rw [tl_inj h] at h1
    rw [h1]
    rfl
  · intro h
    obtain ⟨x, hx⟩ := Option.isSome_iff_exists.1 h
    exact ⟨_, mem_kid hx, rfl⟩
theorem mem_names2 {a b : Tr} (ha : Sorted a) (hb : Sorted b) {n : ByteArray} : n ∈ namesOf [a, b] ↔ (kid a n).isSome = true ∨ (kid b n).isSome = true := by
  rw [mem_namesOf, ← mem_nms ha, ← mem_nms hb]
  simp
theorem take_flat {α : Type} (f : ByteArray → List α) (l : List ByteArray) (i : Nat) (h : i < l.length) : (l.take (i + 1)).flatMap f = (l.take i).flatMap f ++ f l[i] := by
  rw [List.take_succ_eq_append_getElem h, List.flatMap_append]
  simp
theorem take_flat_le {α : Type} (f : ByteArray → List α) (l : List ByteArray) (i : Nat) : ((l.take i).flatMap f).length ≤ (l.flatMap f).length := by
  have : l.flatMap f = (l.take i).flatMap f ++ (l.drop i).flatMap f := by rw [← List.flatMap_append, List.take_append_drop]
  rw [this, List.length_append]
  omega
/-- How long the paths of two trees so deep are. -/
theorem pathsM_deep : ∀ {d : Nat} (a b : Tr) {p : List ByteArray}, p ∈ pathsM d a b → p.length ≤ d
  | 0, _, _, p, h => by simp [pathsM] at h
  | d + 1, a, b, p, h => by
    rw [pathsM, List.mem_flatMap] at h
    obtain ⟨n, _, h⟩ := h
    unfold stepP at h
    split at h
    · obtain ⟨q, hq, rfl⟩ := List.mem_map.1 h
      have := pathsM_deep _ _ hq
      simpa using this
    · obtain rfl := List.mem_singleton.1 h
      simp
theorem paths_ev {W : Nat} (hW : W ≤ 400000) (hW0 : 0 < W) : ∀ {d : Nat} {a b : Tr}, d ≤ 1000 → (2 * W) ^ d ≤ 1000000000000 → Ok W d a → Ok W d b → Ev (fun k => diff_Paths.f k a b) (pathsM d a b) := by
  intro d
  induction d with
  | zero =>
    intro a b _ _ ha hb
    obtain ⟨K, hK⟩ := treeNames_ev [a, b] (by simp) (by rw [show a = [] from ha, show b = [] from hb]; simp [nms])
    rw [show a = [] from ha, show b = [] from hb] at hK ⊢
    have hn : namesOf [([] : Tr), []] = [] := by
      have := namesOf_length [([] : Tr), []]
      exact List.eq_nil_of_length_eq_zero (by simpa [nms] using this)
    obtain ⟨K2, hK2⟩ := joined29_ev [([] : List (List ByteArray))] (by simp) (by simp)
    refine ⟨K + K2 + 2, fun k hk => ?_⟩
    obtain ⟨k, rfl⟩ : ∃ m, k = m + 2 := ⟨k - 2, by omega⟩
    show diff_Paths.f (k + 1 + 1) [] [] = some []
    simp only [diff_Paths.f]
    have h1 : tree_Names.f (k + 1) [([] : Tr), []] = some (namesOf [([] : Tr), []]) := hK (k + 1) (by omega)
    have h2 : diff_joined_string_29.f k [([] : List (List ByteArray))] = some [([] : List (List ByteArray))].flatten := hK2 k (by omega)
    rw [h1, Option.bind_some, hn]
    simp only [diff_Paths.l0]
    rw [if_neg (by simp), h2, Option.bind_some]
    rfl
  | succ d ih =>
    intro a b hd hB ha hb
    have hBd : (2 * W) ^ d ≤ 1000000000000 := Nat.le_trans (Nat.pow_le_pow_right (by omega) (by omega)) hB
    have hn2 := names2_length ha hb
    have hnm := treeNames_ev [a, b] (by simp) (by omega)
    have hlen := pathsM_length hW0 (d := d + 1) a b ha hb
    have hnl := namesOf_length [a, b]
    have hstep := fun n => stepP_length hW0 (fun a b => pathsM_length hW0 a b) ha hb n
    have hmem := fun n (h : n ∈ namesOf [a, b]) => (mem_names2 ha.sorted hb.sorted).1 h
    rw [pathsM] at hlen ⊢
    refine Ev.step (f := fun k => (tree_Names.f k [a, b]).bind fun t => diff_Paths.l0 k a b [] t (t.length : Int) 0) (fun k => by simp only [diff_Paths.f]) (Ev.bind hnm ?_)
    generalize namesOf [a, b] = N at hlen hnl hmem ⊢
    generalize hS : stepP (pathsM d) a b = S at hlen hstep ⊢
    have inner : ∀ (i : Nat) (hi : i < N.length) (q : List (List ByteArray)), S N[i] = q.map (N[i] :: ·) → q.length ≤ 1000000000000 → (∀ p ∈ q, p.length ≤ 1000) → Ev (fun k => diff_Paths.l0 k a b ((N.take (i + 1)).flatMap S) N (N.length : Int) ((i + 1 : Nat) : Int)) (N.flatMap S) →
        ∀ (m j : Nat), j + m = q.length → Ev (fun k => diff_Paths.l1 k a b ((N.take i).flatMap S ++ (q.take j).map (N[i] :: ·)) N[i] N (N.length : Int) (i : Int) q (q.length : Int) (j : Int)) (N.flatMap S) := by
      intro i hi q hq hql hqp h0 m
      have hle := take_flat_le S N (i + 1)
      have hnx := take_flat S N i hi
      rw [hnx, List.length_append, hq, List.length_map] at hle
      induction m with
      | zero =>
        intro j hj
        refine Ev.step (f := fun k => diff_Paths.l0 k a b ((N.take (i + 1)).flatMap S) N (N.length : Int) ((i + 1 : Nat) : Int)) (fun k => ?_) h0
        simp only [diff_Paths.l1]
        rw [if_neg (by omega), wrap_succ (by omega), List.take_of_length_le (l := q) (by omega), hnx, hq]
      | succ m ihm =>
        intro j hj
        have hjl : j < q.length := by omega
        have hqj := hqp q[j] (List.getElem_mem hjl)
        refine Ev.step (f := fun k => (diff_joined_string_28.f k [[N[i]], q[j]]).bind fun t => diff_Paths.l1 k a b ((N.take i).flatMap S ++ (q.take j).map (N[i] :: ·) ++ [t]) N[i] N (N.length : Int) (i : Int) q (q.length : Int) ((j + 1 : Nat) : Int)) (fun k => ?_) (Ev.bind (joined28_ev [[N[i]], q[j]] (by simp; omega) (by simp)) ?_)
        · simp only [diff_Paths.l1]
          rw [if_pos (by omega), if_pos (by omega), if_pos (by omega), rdL_s hjl, wrap_succ (by omega)]
          congr 1
          funext t
          rw [if_pos (by rw [List.length_append, List.length_map, List.length_take]; omega)]
        · have := ihm (j + 1) (by omega)
          rw [List.take_succ_eq_append_getElem hjl, List.map_append, ← List.append_assoc] at this
          simpa using this
    have outer : ∀ (m i : Nat), i + m = N.length → Ev (fun k => diff_Paths.l0 k a b ((N.take i).flatMap S) N (N.length : Int) (i : Int)) (N.flatMap S) := by
      intro m
      induction m with
      | zero =>
        intro i hi
        rw [List.take_of_length_le (by omega)]
        obtain ⟨K, hK⟩ := joined29_ev [N.flatMap S] (by simp only [List.flatten_cons, List.flatten_nil, List.append_nil]; omega) (by simp)
        refine ⟨K + 1, fun k hk => ?_⟩
        obtain ⟨k, rfl⟩ : ∃ m, k = m + 1 := ⟨k - 1, by omega⟩
        replace hK : diff_joined_string_29.f k [N.flatMap S] = some [N.flatMap S].flatten := hK k (by omega)
        show diff_Paths.l0 (k + 1) a b (N.flatMap S) N (N.length : Int) (i : Int) = some (N.flatMap S)
        simp only [diff_Paths.l0]
        rw [if_neg (by omega), hK, Option.bind_some]
        simp
      | succ m ihm =>
        intro i hi
        have hil : i < N.length := by omega
        have hle := take_flat_le S N i
        have h0 := ihm (i + 1) (by omega)
        have ga := get_ev (by omega) [N[i]] ha (by simp)
        have gb := get_ev (by omega) [N[i]] hb (by simp)
        rw [getR_one] at ga gb
        refine Ev.step (f := fun k => (tree_Get.f k a [N[i]]).bind fun u => (tree_Get.f k b [N[i]]).bind fun v => if u.2 = true then diff_Paths.j1 k a b ((N.take i).flatMap S) N[i] u.1 v.1 N (N.length : Int) (i : Int) (!v.2) else diff_Paths.j1 k a b ((N.take i).flatMap S) N[i] u.1 v.1 N (N.length : Int) (i : Int) true) (fun k => ?_) (Ev.bind ga (Ev.bind gb ?_))
        · simp only [diff_Paths.l0]
          rw [if_pos (by omega), if_pos (by omega), if_pos (by omega), rdOf_nat hil]
        · have one : ∀ (c : Bool) (x y : Tr), S N[i] = [[N[i]]] → c = true → Ev (fun k => diff_Paths.j1 k a b ((N.take i).flatMap S) N[i] x y N (N.length : Int) (i : Int) c) (N.flatMap S) := by
            intro c x y hS1 hc
            subst hc
            have hnx := take_flat S N i hil
            rw [hS1] at hnx
            rw [hnx] at h0
            refine Ev.step (f := fun k => diff_Paths.l0 k a b ((N.take i).flatMap S ++ [[N[i]]]) N (N.length : Int) ((i + 1 : Nat) : Int)) (fun k => ?_) h0
            simp only [diff_Paths.j1]
            rw [if_pos trivial, if_pos (by omega), wrap_succ (by omega)]
          cases ea : kid a N[i] with
          | none =>
            have hS1 : S N[i] = [[N[i]]] := by rw [← hS]; unfold stepP; rw [ea]
            simp only [Option.isSome_none, Bool.false_eq_true, if_false]
            exact one _ _ _ hS1 rfl
          | some x =>
            simp only [Option.isSome_some, if_true, Option.getD_some]
            cases eb : kid b N[i] with
            | none =>
              have hS1 : S N[i] = [[N[i]]] := by rw [← hS]; unfold stepP; rw [ea, eb]
              exact one _ _ _ hS1 rfl
            | some y =>
              have hS2 : S N[i] = (pathsM d x y).map (N[i] :: ·) := by rw [← hS]; unfold stepP; rw [ea, eb]
              have hx := ha.kid ea
              have hy := hb.kid eb
              have hpl := pathsM_length hW0 x y hx hy
              simp only [Option.isSome_some, Option.getD_some, Bool.not_true]
              refine Ev.step (f := fun k => (diff_Paths.f k x y).bind fun t => diff_Paths.l1 k a b ((N.take i).flatMap S) N[i] N (N.length : Int) (i : Int) t (t.length : Int) 0) (fun k => ?_) (Ev.bind (ih (by omega) hBd hx hy) ?_)
              · simp only [diff_Paths.j1]
                rw [if_neg Bool.false_ne_true]
              · have := inner i hil (pathsM d x y) hS2 (by omega) (fun p hp => by have := pathsM_deep _ _ hp; omega) h0 (pathsM d x y).length 0 (by omega)
                simpa using this
    have := outer N.length 0 (by omega)
    simpa using this
theorem refPaths_ev {W : Nat} (hW : W ≤ 400000) (hW0 : 0 < W) : ∀ {d : Nat} {a b : Tr}, d ≤ 1000 → (2 * W) ^ d ≤ 1000000000000 → Ok W d a → Ok W d b → Ev (fun k => cadenceref13_Paths.f k a b) (pathsM d a b) := by
  intro d
  induction d with
  | zero =>
    intro a b _ _ ha hb
    obtain ⟨K, hK⟩ := refNames_ev [a, b] (by simp) (by rw [show a = [] from ha, show b = [] from hb]; simp [nms])
    rw [show a = [] from ha, show b = [] from hb] at hK ⊢
    have hn : namesOf [([] : Tr), []] = [] := by
      have := namesOf_length [([] : Tr), []]
      exact List.eq_nil_of_length_eq_zero (by simpa [nms] using this)
    refine ⟨K + 2, fun k hk => ?_⟩
    obtain ⟨k, rfl⟩ : ∃ m, k = m + 2 := ⟨k - 2, by omega⟩
    show cadenceref13_Paths.f (k + 1 + 1) [] [] = some []
    simp only [cadenceref13_Paths.f]
    have h1 : cadenceref2_Names.f (k + 1) [([] : Tr), []] = some (namesOf [([] : Tr), []]) := hK (k + 1) (by omega)
    rw [h1, Option.bind_some, hn]
    simp only [cadenceref13_Paths.l0]
    rw [if_neg (by simp)]
  | succ d ih =>
    intro a b hd hB ha hb
    have hBd : (2 * W) ^ d ≤ 1000000000000 := Nat.le_trans (Nat.pow_le_pow_right (by omega) (by omega)) hB
    have hn2 := names2_length ha hb
    have hnm := refNames_ev [a, b] (by simp) (by omega)
    have hlen := pathsM_length hW0 (d := d + 1) a b ha hb
    have hnl := namesOf_length [a, b]
    have hmem := fun n (h : n ∈ namesOf [a, b]) => (mem_names2 ha.sorted hb.sorted).1 h
    have hal := ha.length
    have hbl := hb.length
    rw [pathsM] at hlen ⊢
    refine Ev.step (f := fun k => (cadenceref2_Names.f k [a, b]).bind fun t => cadenceref13_Paths.l0 k a b [] t 0) (fun k => by simp only [cadenceref13_Paths.f]) (Ev.bind hnm ?_)
    generalize namesOf [a, b] = N at hlen hnl hmem ⊢
    generalize hS : stepP (pathsM d) a b = S at hlen ⊢
    have inner : ∀ (i : Nat) (hi : i < N.length) (q : List (List ByteArray)), S N[i] = q.map (N[i] :: ·) → q.length ≤ 1000000000000 → (∀ p ∈ q, p.length ≤ 1000) → Ev (fun k => cadenceref13_Paths.l0 k a b ((N.take (i + 1)).flatMap S) N ((i + 1 : Nat) : Int)) (N.flatMap S) →
        ∀ (m j : Nat), j + m = q.length → Ev (fun k => cadenceref13_Paths.l1 k a b ((N.take i).flatMap S ++ (q.take j).map (N[i] :: ·)) N (i : Int) q (j : Int)) (N.flatMap S) := by
      intro i hi q hq hql hqp h0 m
      have hle := take_flat_le S N (i + 1)
      have hnx := take_flat S N i hi
      rw [hnx, List.length_append, hq, List.length_map] at hle
      induction m with
      | zero =>
        intro j hj
        refine Ev.step (f := fun k => cadenceref13_Paths.l0 k a b ((N.take (i + 1)).flatMap S) N ((i + 1 : Nat) : Int)) (fun k => ?_) h0
        simp only [cadenceref13_Paths.l1]
        rw [if_neg (by omega), wrap_succ (by omega), List.take_of_length_le (l := q) (by omega), hnx, hq]
      | succ m ihm =>
        intro j hj
        have hjl : j < q.length := by omega
        have hqj := hqp q[j] (List.getElem_mem hjl)
        refine Ev.step (f := fun k => cadenceref13_Paths.l1 k a b ((N.take i).flatMap S ++ (q.take (j + 1)).map (N[i] :: ·)) N (i : Int) q ((j + 1 : Nat) : Int)) (fun k => ?_) (ihm (j + 1) (by omega))
        simp only [cadenceref13_Paths.l1]
        rw [if_pos (by omega), if_pos (by omega), if_pos (by omega), rdOf_nat hi, Option.bind_some, if_pos (by omega), rdL_s hjl, if_pos (by simp; omega), if_pos (by rw [List.length_append, List.length_map, List.length_take]; omega), wrap_succ (by omega), List.take_succ_eq_append_getElem hjl, List.map_append, ← List.append_assoc]
        rfl
    have outer : ∀ (m i : Nat), i + m = N.length → Ev (fun k => cadenceref13_Paths.l0 k a b ((N.take i).flatMap S) N (i : Int)) (N.flatMap S) := by
      intro m
      induction m with
      | zero =>
        intro i hi
        refine Ev.step (f := fun _ => some (N.flatMap S)) (fun k => ?_) (Ev.now _)
        simp only [cadenceref13_Paths.l0]
        rw [if_neg (by omega), List.take_of_length_le (by omega)]
      | succ m ihm =>
        intro i hi
        have hil : i < N.length := by omega
        have hle := take_flat_le S N i
        have h0 := ihm (i + 1) (by omega)
        have ga := kid_ev a N[i] (by omega)
        have gb := kid_ev b N[i] (by omega)
        refine Ev.step (f := fun k => (cadenceref2_Kid.f k a N[i]).bind fun u => (cadenceref2_Kid.f k b N[i]).bind fun v => if (u.2 != v.2) = true then (if ((N.take i).flatMap S).length < 5864062014805 then cadenceref13_Paths.l0 k a b ((N.take i).flatMap S ++ [[N[i]]]) N ((i + 1 : Nat) : Int) else none) else (cadenceref13_Paths.f k u.1 v.1).bind fun t => cadenceref13_Paths.l1 k a b ((N.take i).flatMap S) N (i : Int) t 0) (fun k => ?_) (Ev.bind ga (Ev.bind gb ?_))
        · simp only [cadenceref13_Paths.l0]
          rw [if_pos (by omega), if_pos (by omega), rdOf_nat hil, wrap_succ (by omega)]
        · have one : S N[i] = [[N[i]]] → Ev (fun k => if ((N.take i).flatMap S).length < 5864062014805 then cadenceref13_Paths.l0 k a b ((N.take i).flatMap S ++ [[N[i]]]) N ((i + 1 : Nat) : Int) else none) (N.flatMap S) := by
            intro hS1
            have hnx := take_flat S N i hil
            rw [hS1] at hnx
            rw [hnx] at h0
            refine Ev.congr (fun k => ?_) h0
            rw [if_pos (by omega)]
          cases ea : kid a N[i] with
          | none =>
            cases eb : kid b N[i] with
            | none =>
              have := hmem _ (List.getElem_mem hil)
              rw [ea, eb] at this
              simp at this
            | some y =>
              have hS1 : S N[i] = [[N[i]]] := by rw [← hS]; unfold stepP; rw [ea]
              exact Ev.congr (fun k => by rw [if_pos (by rfl)]) (one hS1)
          | some x =>
            cases eb : kid b N[i] with
            | none =>
              have hS1 : S N[i] = [[N[i]]] := by rw [← hS]; unfold stepP; rw [ea, eb]
              exact Ev.congr (fun k => by rw [if_pos (by rfl)]) (one hS1)
            | some y =>
              have hS2 : S N[i] = (pathsM d x y).map (N[i] :: ·) := by rw [← hS]; unfold stepP; rw [ea, eb]
              have hx := ha.kid ea
              have hy := hb.kid eb
              have hpl := pathsM_length hW0 x y hx hy
              refine Ev.congr (f := fun k => (cadenceref13_Paths.f k x y).bind fun t => cadenceref13_Paths.l1 k a b ((N.take i).flatMap S) N (i : Int) t 0) (fun k => by rw [if_neg (by simp)]; rfl) (Ev.bind (ih (by omega) hBd hx hy) ?_)
              have := inner i hil (pathsM d x y) hS2 (by omega) (fun p hp => by have := pathsM_deep _ _ hp; omega) h0 (pathsM d x y).length 0 (by omega)
              simpa using this
    have := outer N.length 0 (by omega)
    simpa using this
theorem namesOf_swap (a b : Tr) : namesOf [a, b] = namesOf [b, a] := by
  unfold namesOf
  congr 1
  refine ofL_eq.2 fun s => ?_
  simp only [List.flatMap_cons, List.flatMap_nil, List.append_nil, List.mem_append]
  exact Or.comm
theorem pathsM_swap : ∀ {d : Nat} (a b : Tr), pathsM d a b = pathsM d b a
  | 0, _, _ => rfl
  | d + 1, a, b => by
    rw [pathsM, pathsM, namesOf_swap]
    congr 1
    funext n
    unfold stepP
    cases kid a n <;> cases kid b n <;> simp [pathsM_swap]
end Go.Proofs.Ytbhgocpenbibgaa.PX
-- written by wip/tools/hybrid.py (over the kit's print.py, with functions proved by hand beside it) for this claim
namespace Go.Proofs.Ytbhgocpenbibgaa.PX
open Go.RowKit Go.Proofs.YtbhgocpenbibgaaW.PrintWords Go.Proofs.YtbhgocpenbibgaaW.PrintLast Go.Proofs.YtbhgocpenbibgaaW.PrintMore
attribute [local go_sem] max2_int min2_int max_two min_two max_three min_three max_four min_four   -- for this text's walks alone
set_option linter.unusedVariables false
set_option linter.unusedSimpArgs false

/-! ### cadenceref2_Get: function 14 -/
def cadenceref2_Get.l0 : Nat → List (S45) → List ByteArray → Int → Option ((List (S45)) × Bool)
  | 0, _, _, _ => none
  | k + 1, x0, x1, x6 => if x6 < (x1.length : Int) then (if 0 ≤ x6 then ((cadenceref2_Kid.f k x0 (rdOf ByteArray.empty x1 x6)).bind fun bt396 => (if bt396.2 = true then (cadenceref2_Get.l0 k bt396.1 x1 (wrap64 (x6 + 1))) else (some (([] : List (S45)), false)))) else (none)) else (some (x0, true))
def cadenceref2_Get.f (k : Nat) (l0 : List (S45)) (l1 : List ByteArray) : Option ((List (S45)) × Bool) := cadenceref2_Get.l0 k l0 l1 0
theorem cadenceref2_Get.mono_l : ∀ k, (∀ y0 y1 y2, LeO (cadenceref2_Get.l0 k y0 y1 y2) (cadenceref2_Get.l0 (k + 1) y0 y1 y2))
  | 0 => fun _ _ _ r h => by simp [cadenceref2_Get.l0] at h
  | k + 1 => by
    have ih0 := cadenceref2_Get.mono_l k
    · intro y0 y1 y2
      unfold cadenceref2_Get.l0
      repeat' first
      | (with_reducible exact ih0 _ _ _)
      | (with_reducible exact cadenceref2_Kid.mono _ _ _)
      | (with_reducible exact LeO.refl _)
      | (with_reducible exact LeO.none _)
      | (with_reducible refine LeO.ite ?_ ?_)
      | (with_reducible refine LeO.bind ?_ (fun _ => ?_))
      | exact ih0 _ _ _
      | exact cadenceref2_Kid.mono _ _ _
      | exact LeO.none _
      | refine LeO.ite ?_ ?_
      | refine LeO.bind ?_ (fun _ => ?_)
theorem cadenceref2_Get.mono : ∀ a0 a1 k, LeO (cadenceref2_Get.f k a0 a1) (cadenceref2_Get.f (k + 1) a0 a1) := by
  intro a0 a1 k
  have ih0 := cadenceref2_Get.mono_l k
  unfold cadenceref2_Get.f
  repeat' first
      | (with_reducible exact ih0 _ _ _)
      | (with_reducible exact cadenceref2_Kid.mono _ _ _)
      | (with_reducible exact LeO.refl _)
      | (with_reducible exact LeO.none _)
      | (with_reducible refine LeO.ite ?_ ?_)
      | (with_reducible refine LeO.bind ?_ (fun _ => ?_))
      | exact ih0 _ _ _
      | exact cadenceref2_Kid.mono _ _ _
      | exact LeO.none _
      | refine LeO.ite ?_ ?_
      | refine LeO.bind ?_ (fun _ => ?_)
set_option maxHeartbeats 8000000 in
set_option maxRecDepth 100000 in
theorem cadenceref2_Get.calls (k : Nat) (P0_ : Nat → Prop) (A0 : Option Addr) (c0 : Nat) (l0 : List (S45)) (A1 : Option Addr) (c1 : Nat) (l1 : List ByteArray) (r1 : List (S45)) (r2 : Bool) (w : World) (hs0 : Kd.V k45 45 w w.heap.size (fun k_ => P0_ k_) (.slice A0 l0.length c0) l0) (hr1 : Kd.C Kd.string w A1 l1.length l1) (hc1 : l1.length ≤ c1) (h : cadenceref2_Get.f k l0 l1 = some (r1, r2)) :
    Calls Try.prog 14 #[.slice A0 l0.length c0, .slice A1 l1.length c1] w fun e w' => ∃ v0_ : Value, e = .returned (.tuple #[v0_, .bool r2]) ∧ Kd.V k45 45 w' w.heap.size (fun k_ => (P0_ k_ ∨ w.heap.size ≤ k_)) v0_ r1 ∧ Below w.heap.size w w' := by
  have HO0 := Aside0.mk (show Kd.V k45 45 w w.heap.size (fun k_ => (P0_ k_ ∨ w.heap.size ≤ k_)) (.slice A0 l0.length c0) l0 from Kd.V_mono hs0 (fun k_ hk => .inl hk))
  have HR1 := Aside0.mk hr1
  have HC1 := Aside0.mk hc1
  clear hr1 hc1
  have HB := Aside0.mk (Below.refl w.heap.size w)
  have H : (cadenceref2_Get.l0 k l0 l1 0) = some (r1, r2) := h
  clear h
  have H' := Aside0.mk H
  clear H
  go_enter Try.func14, Try.ntmps14
  go_wp2
  go_loopg [0, 6] k (fun kq v0 v6 w' => ∃ (x0_1 : List (S45)) (x6_1 : Int), v6 = .int .i64 x6_1 ∧ Aside0 (cadenceref2_Get.l0 kq x0_1 l1 x6_1 = some (r1, r2)) ∧ Aside0 (kq ≤ k) ∧ Aside0 (Kd.V k45 45 w' w.heap.size (fun k_ => (P0_ k_ ∨ w.heap.size ≤ k_)) v0 x0_1) ∧ Aside0 (Below w.heap.size w w'))
  case atStart => exact ⟨(l0), (0), (by first | rfl | (simp; done) | (simp [*]; done)), H', ⟨Nat.le_refl _⟩, ⟨by (with_reducible repeat (first | apply vA_ | apply vN_ | apply vD_)); exact HO0.out⟩, ⟨by repeat (first | (with_reducible first | exact HB.out | apply bA_ | apply bN_ | apply bD_) | exact HB.out)⟩⟩
  case round =>
    clear H'
    try clear c1
    try clear p2
    obtain ⟨x0_1, x6_1, rfl, HA, HK1, HO_0, HB⟩ := hrel
    cases gk with
    | zero => exact absurd HA.out (by simp [cadenceref2_Get.l0])
    | succ k1 =>
      have H := HA.out
      clear HA
      simp only [cadenceref2_Get.l0] at H
      by_cases c3 : x6_1 < (l1.length : Int)
      · rw [if_pos c3] at H
        have c3b0 : decide (x6_1 < (l1.length : Int)) = true := decide_eq_true c3
        clear c3
        by_cases c4 : 0 ≤ x6_1
        · rw [if_pos c4] at H
          have c4b0 : decide (0 ≤ x6_1) = true := decide_eq_true c4
          clear c4
          replace H := Option.bind_eq_some_iff.mp H
          obtain ⟨⟨t396, t399⟩, A50, H⟩ := H
          replace H : (if t399 = true then (cadenceref2_Get.l0 k1 t396 l1 (wrap64 (x6_1 + 1))) else (some (([] : List (S45)), false))) = some (r1, r2) := H
          have A5 := Aside0.mk A50
          clear A50
          by_cases c6 : t399 = true
          · subst c6
            have H1 : (cadenceref2_Get.l0 k1 t396 l1 (wrap64 (x6_1 + 1))) = some (r1, r2) := by rw [if_pos rfl] at H; exact H
            clear H
            have H := H1
            clear H1
            have H' := Aside0.mk H
            clear H
            have p395 : 0 ≤ (x6_1 : Int) := of_decide_eq_true (by first | (with_reducible assumption) | assumption)
            have q395 : x6_1 < (l1.length : Int) := of_decide_eq_true (by first | (with_reducible assumption) | assumption)
            obtain ⟨ad395, e395, hx395_0⟩ := Kd.at_string HR1.out x6_1 p395 q395
            cases e395
            replace hx395_0 := (HB.out.cell (World.block_lt_of_cell? w _ hx395_0)).trans hx395_0
            replace p395 := eq_true p395
            replace q395 := eq_true q395
            obtain ⟨Ao7, co7, eo7⟩ := Kd.V_slice HO_0.out
            subst eo7
            go_wp2_with (first | ((with_reducible refine gate_callee (f := 31) rfl ?_); refine goesL_ (some 21) rfl rfl Try.func31 (by kernel_rfl) rfl #[.slice Ao7 x0_1.length co7, .string (rdOf ByteArray.empty l1 x6_1)] rfl (by (try simp only [List.map_toArray, List.map_cons, List.map_nil]); first | done | rfl | (simp only [List.length_drop, List.length_take]; rfl)) ?_; (with_reducible refine (cadenceref2_Kid.calls k1 (fun k_ => (P0_ k_ ∨ w.heap.size ≤ k_)) _ _ x0_1 (rdOf ByteArray.empty l1 x6_1) t396 true _ ?side1 A5.out).mono ?_); (case side1 => exact HO_0.out); rintro e w8 ⟨v397, rfl, ho0, hb⟩; refine ⟨_, rfl, ?_⟩; have n0_ := Aside0.mk (Kd.V_below (by (with_reducible repeat (first | apply vA_ | apply vN_ | apply vD_)); exact HO_0.out) hb); have n1_ := Aside0.mk (Kd.V_lower (Kd.V_mono (ok' := fun k_ => (P0_ k_ ∨ w.heap.size ≤ k_)) ho0 (fun k_ hk_ => Or.elim hk_ (fun hs_ => hs_) (fun hn_ => (.inr (Nat.le_trans (below_size (by repeat (first | (with_reducible first | exact HB.out | apply bA_ | apply bN_ | apply bD_) | exact HB.out))) hn_))))) (below_size (by repeat (first | (with_reducible first | exact HB.out | apply bA_ | apply bN_ | apply bD_) | exact HB.out)))); have n2_ := Aside0.mk (below_step (by repeat (first | (with_reducible first | exact HB.out | apply bA_ | apply bN_ | apply bD_) | exact HB.out)) hb); clear HO_0; clear HB; have HO_0 := n0_; have HO398 := n1_; have HB := n2_; clear n0_ n1_ n2_; (try clear hb); (try clear hb2); (try clear hk); (try clear hi); (try clear ho0)))
            go_roundg k1
            case measure => have := HK1.out; omega
            case rel => exact ⟨(t396), (wrap64 (x6_1 + 1)), (by first | rfl | (simp; done) | (simp [*]; done)), H', ⟨by have := HK1.out; omega⟩, ⟨by (with_reducible repeat (first | apply vA_ | apply vN_ | apply vD_)); exact HO398.out⟩, ⟨by repeat (first | (with_reducible first | exact HB.out | apply bA_ | apply bN_ | apply bD_) | exact HB.out)⟩⟩
          · replace c6 := Bool.eq_false_iff.mpr c6
            subst c6
            have H1 : (some (([] : List (S45)), false)) = some (r1, r2) := by rw [if_neg (show ¬ (false = true) by decide)] at H; exact H
            clear H
            have H := H1
            clear H1
            simp only [Option.some.injEq, Prod.mk.injEq] at H
            obtain ⟨rfl, rfl⟩ := H
            have p395 : 0 ≤ (x6_1 : Int) := of_decide_eq_true (by first | (with_reducible assumption) | assumption)
            have q395 : x6_1 < (l1.length : Int) := of_decide_eq_true (by first | (with_reducible assumption) | assumption)
            obtain ⟨ad395, e395, hx395_0⟩ := Kd.at_string HR1.out x6_1 p395 q395
            cases e395
            replace hx395_0 := (HB.out.cell (World.block_lt_of_cell? w _ hx395_0)).trans hx395_0
            replace p395 := eq_true p395
            replace q395 := eq_true q395
            obtain ⟨Ao9, co9, eo9⟩ := Kd.V_slice HO_0.out
            subst eo9
            go_wp2_with (first | ((with_reducible refine gate_callee (f := 31) rfl ?_); refine goesL_ (some 21) rfl rfl Try.func31 (by kernel_rfl) rfl #[.slice Ao9 x0_1.length co9, .string (rdOf ByteArray.empty l1 x6_1)] rfl (by (try simp only [List.map_toArray, List.map_cons, List.map_nil]); first | done | rfl | (simp only [List.length_drop, List.length_take]; rfl)) ?_; (with_reducible refine (cadenceref2_Kid.calls k1 (fun k_ => (P0_ k_ ∨ w.heap.size ≤ k_)) _ _ x0_1 (rdOf ByteArray.empty l1 x6_1) t396 false _ ?side1 A5.out).mono ?_); (case side1 => exact HO_0.out); rintro e w10 ⟨v397, rfl, ho0, hb⟩; refine ⟨_, rfl, ?_⟩; have n0_ := Aside0.mk (Kd.V_below (by (with_reducible repeat (first | apply vA_ | apply vN_ | apply vD_)); exact HO_0.out) hb); have n1_ := Aside0.mk (Kd.V_lower (Kd.V_mono (ok' := fun k_ => (P0_ k_ ∨ w.heap.size ≤ k_)) ho0 (fun k_ hk_ => Or.elim hk_ (fun hs_ => hs_) (fun hn_ => (.inr (Nat.le_trans (below_size (by repeat (first | (with_reducible first | exact HB.out | apply bA_ | apply bN_ | apply bD_) | exact HB.out))) hn_))))) (below_size (by repeat (first | (with_reducible first | exact HB.out | apply bA_ | apply bN_ | apply bD_) | exact HB.out)))); have n2_ := Aside0.mk (below_step (by repeat (first | (with_reducible first | exact HB.out | apply bA_ | apply bN_ | apply bD_) | exact HB.out)) hb); clear HO_0; clear HB; have HO_0 := n0_; have HO398 := n1_; have HB := n2_; clear n0_ n1_ n2_; (try clear hb); (try clear hb2); (try clear hk); (try clear hi); (try clear ho0)))
            go_ret2
            exact ⟨_, by first | rfl | (simp [errW_none, errW_some] <;> rfl) | (simp [*, errW_none, errW_some] <;> rfl), Kd.V_mono (Kd.R_V (base := w.heap.size) (ok := fun k_ => w.heap.size ≤ k_) (by first | exact Kd.R_nil _ _ _ _ _ | exact Kd.N_nil _ _ _ _ _ | exact Kd.V_nil _ _ _ _ _ | exact Kd.Q_nil _ _ _ _ _ | exact Kd.S_nil _ _ _ _ _)) (fun k_ hk => by first | exact ⟨(.inr (hk.1)), hk.2⟩ | exact (.inr (hk))), by repeat (first | (with_reducible first | exact HB.out | apply bA_ | apply bN_ | apply bD_) | exact HB.out)⟩
        · rw [if_neg c4] at H
          exact absurd H (by simp)
      · rw [if_neg c3] at H
        have c3b0 : decide (x6_1 < (l1.length : Int)) = false := decide_eq_false c3
        clear c3
        simp only [Option.some.injEq, Prod.mk.injEq] at H
        obtain ⟨rfl, rfl⟩ := H
        go_wp2
        go_ret2
        exact ⟨_, by first | rfl | (simp [errW_none, errW_some] <;> rfl) | (simp [*, errW_none, errW_some] <;> rfl), by (with_reducible repeat (first | apply vA_ | apply vN_ | apply vD_)); exact HO_0.out, by repeat (first | (with_reducible first | exact HB.out | apply bA_ | apply bN_ | apply bD_) | exact HB.out)⟩

end Go.Proofs.Ytbhgocpenbibgaa.PX
-- written by wip/tools/hybrid.py (over the kit's print.py, with functions proved by hand beside it) for this claim
namespace Go.Proofs.Ytbhgocpenbibgaa.PX
open Go.RowKit Go.Proofs.YtbhgocpenbibgaaW.PrintWords Go.Proofs.YtbhgocpenbibgaaW.PrintLast Go.Proofs.YtbhgocpenbibgaaW.PrintMore
attribute [local go_sem] max2_int min2_int max_two min_two max_three min_three max_four min_four   -- for this text's walks alone
set_option linter.unusedVariables false
set_option linter.unusedSimpArgs false

/-! ### cadenceref2_Put: function 15 -/
def cadenceref2_Put.f : Nat → List (S45) → List ByteArray → List (S45) → Option ((List (S45)))
  | 0, _, _, _ => none
  | k + 1, l0, l1, l2 => if (l1.length : Int) = 0 then (some l2) else (if 0 < (l1.length : Int) then ((cadenceref2_Kid.f k l0 (rdOf ByteArray.empty l1 0)).bind fun bt401 => (if 1 ≤ (l1.length : Int) then ((cadenceref2_Put.f k bt401.1 (l1.drop 1) l2).bind fun t407 => ((cadenceref2_With.f k l0 (rdOf ByteArray.empty l1 0) t407).bind fun t410 => (some t410))) else (none))) else (none))
theorem cadenceref2_Put.mono_l : ∀ k, (∀ y0 y1 y2, LeO (cadenceref2_Put.f k y0 y1 y2) (cadenceref2_Put.f (k + 1) y0 y1 y2))
  | 0 => fun _ _ _ r h => by simp [cadenceref2_Put.f] at h
  | k + 1 => by
    have ih0 := cadenceref2_Put.mono_l k
    · intro y0 y1 y2
      unfold cadenceref2_Put.f
      repeat' first
      | (with_reducible exact ih0 _ _ _)
      | (with_reducible exact cadenceref2_Kid.mono _ _ _)
      | (with_reducible exact cadenceref2_With.mono _ _ _ _)
      | (with_reducible exact LeO.refl _)
      | (with_reducible exact LeO.none _)
      | (with_reducible refine LeO.ite ?_ ?_)
      | (with_reducible refine LeO.bind ?_ (fun _ => ?_))
      | exact ih0 _ _ _
      | exact cadenceref2_Kid.mono _ _ _
      | exact cadenceref2_With.mono _ _ _ _
      | exact LeO.none _
      | refine LeO.ite ?_ ?_
      | refine LeO.bind ?_ (fun _ => ?_)
theorem cadenceref2_Put.mono : ∀ a0 a1 a2 k, LeO (cadenceref2_Put.f k a0 a1 a2) (cadenceref2_Put.f (k + 1) a0 a1 a2) := by
  intro a0 a1 a2 k
  have ih0 := cadenceref2_Put.mono_l k
  exact ih0 a0 a1 a2
def cadenceref2_Put.T4 : Bool × List (List Nat × List Nat) := (true, [([], []), ([], []), ([1], [1]), ([2], [2]), ([], []), ([], []), ([5], [5]), ([], []), ([4, 6, 7], [4, 6, 7]), ([0, 3, 8, 8], [0, 3, 8]), ([9, 9, 0, 1, 2, 3, 4, 5, 6, 7, 8, 9], [9])])
def cadenceref2_Put.B4 : List Nat := [0, 0, 2, 6, 0, 0, 32, 0, 240, 511, 1023]
theorem cadenceref2_Put.tab4 : rtab .any (opsOf Try.f15 4) = cadenceref2_Put.T4 := by kernel_rfl
theorem cadenceref2_Put.bits4 : waitsOk cadenceref2_Put.T4.2 cadenceref2_Put.B4 = true := by kernel_rfl
set_option maxHeartbeats 8000000 in
set_option maxRecDepth 100000 in
theorem cadenceref2_Put.calls (k : Nat) : ∀ (P0_ : Nat → Prop) (A0 : Option Addr) (c0 : Nat) (l0 : List (S45)) (A1 : Option Addr) (c1 : Nat) (l1 : List ByteArray) (P2_ : Nat → Prop) (A2 : Option Addr) (c2 : Nat) (l2 : List (S45)) (r : List (S45)) (w : World) (hs0 : Kd.V k45 45 w w.heap.size (fun k_ => P0_ k_) (.slice A0 l0.length c0) l0) (hr1 : Kd.C Kd.string w A1 l1.length l1) (hc1 : l1.length ≤ c1) (hs2 : Kd.V k45 45 w w.heap.size (fun k_ => P2_ k_) (.slice A2 l2.length c2) l2) (h : cadenceref2_Put.f k l0 l1 l2 = some r),
    Calls Try.prog 15 #[.slice A0 l0.length c0, .slice A1 l1.length c1, .slice A2 l2.length c2] w fun e w' => ∃ v0_ : Value, e = .returned (v0_) ∧ Kd.V k45 45 w' w.heap.size (fun k_ => ((P0_ k_ ∨ P2_ k_) ∨ w.heap.size ≤ k_)) v0_ r ∧ Below w.heap.size w w' := by
  induction k using Nat.strongRecOn with
  | _ k ih =>
  intro P0_ A0 c0 l0 A1 c1 l1 P2_ A2 c2 l2 r w hs0 hr1 hc1 hs2 h
  cases k with
  | zero => exact absurd h (by simp [cadenceref2_Put.f])
  | succ k =>
  simp only [cadenceref2_Put.f] at h
  have HO0 := Aside0.mk (show Kd.V k45 45 w w.heap.size (fun k_ => ((P0_ k_ ∨ P2_ k_) ∨ w.heap.size ≤ k_)) (.slice A0 l0.length c0) l0 from Kd.V_mono hs0 (fun k_ hk => .inl (.inl hk)))
  have HR1 := Aside0.mk hr1
  have HC1 := Aside0.mk hc1
  clear hr1 hc1
  have HO2 := Aside0.mk (show Kd.V k45 45 w w.heap.size (fun k_ => ((P0_ k_ ∨ P2_ k_) ∨ w.heap.size ≤ k_)) (.slice A2 l2.length c2) l2 from Kd.V_mono hs2 (fun k_ hk => .inl (.inr hk)))
  have HB := Aside0.mk (Below.refl w.heap.size w)
  have H : (if (l1.length : Int) = 0 then (some l2) else (if 0 < (l1.length : Int) then ((cadenceref2_Kid.f k l0 (rdOf ByteArray.empty l1 0)).bind fun bt401 => (if 1 ≤ (l1.length : Int) then ((cadenceref2_Put.f k bt401.1 (l1.drop 1) l2).bind fun t407 => ((cadenceref2_With.f k l0 (rdOf ByteArray.empty l1 0) t407).bind fun t410 => (some t410))) else (none))) else (none))) = some r := h
  clear h
  by_cases c4 : (l1.length : Int) = 0
  · rw [if_pos c4] at H
    have c4b0 : ((l1.length : Int) == 0) = true := beq_iff_eq.mpr c4
    have c4b1 : ((l1.length : Int) != 0) = false := bne_eq_false_iff_eq.mpr c4
    clear c4
    obtain rfl := Option.some.inj H
    go_enter Try.func15, Try.ntmps15
    go_wp2
    go_ret
    exact ⟨_, by first | rfl | (simp [errW_none, errW_some] <;> rfl) | (simp [*, errW_none, errW_some] <;> rfl), by (with_reducible repeat (first | apply vA_ | apply vN_ | apply vD_)); exact HO2.out, by repeat (first | (with_reducible first | exact HB.out | apply bA_ | apply bN_ | apply bD_) | exact HB.out)⟩
  · rw [if_neg c4] at H
    have c4b0 : ((l1.length : Int) == 0) = false := beq_eq_false_iff_ne.mpr c4
    have c4b1 : ((l1.length : Int) != 0) = true := bne_iff_ne.mpr c4
    have c4b2 : ¬ (l1 = []) := fun h_ => c4 (by rw [h_]; rfl)
    by_cases c5 : 0 < (l1.length : Int)
    · rw [if_pos c5] at H
      have c5b0 : decide (0 < (l1.length : Int)) = true := decide_eq_true c5
      have c5b1 : decide (0 < l1.length) = true := decide_eq_true (by omega)
      clear c5
      replace H := Option.bind_eq_some_iff.mp H
      obtain ⟨⟨t401, t404⟩, A60, H⟩ := H
      replace H : (if 1 ≤ (l1.length : Int) then ((cadenceref2_Put.f k t401 (l1.drop 1) l2).bind fun t407 => ((cadenceref2_With.f k l0 (rdOf ByteArray.empty l1 0) t407).bind fun t410 => (some t410))) else (none)) = some r := H
      have A6 := Aside0.mk A60
      clear A60
      by_cases c7 : 1 ≤ (l1.length : Int)
      · rw [if_pos c7] at H
        have c7b0 := eq_true c7
        have c7b1 : decide (1 ≤ (l1.length : Int)) = true := decide_eq_true c7
        clear c7
        replace H := Option.bind_eq_some_iff.mp H
        obtain ⟨t407, A80, H⟩ := H
        replace H : ((cadenceref2_With.f k l0 (rdOf ByteArray.empty l1 0) t407).bind fun t410 => (some t410)) = some r := H
        have A8 := Aside0.mk A80
        clear A80
        replace H := Option.bind_eq_some_iff.mp H
        obtain ⟨t410, A90, H⟩ := H
        replace H : (some t410) = some r := H
        have A9 := Aside0.mk A90
        clear A90
        obtain rfl := Option.some.inj H
        have p400 : 0 ≤ (0 : Int) := (by omega)
        have q400 : 0 < (l1.length : Int) := of_decide_eq_true (by first | (with_reducible assumption) | assumption)
        obtain ⟨ad400, e400, hx400_0⟩ := Kd.at_string HR1.out 0 p400 q400
        cases e400
        have qi400 : (0 < l1.length) = True := eq_true (by omega)
        (try rw [show ((0 : Int)).toNat = 0 from rfl] at hx400_0)
        (try rw [Addr.add_zero'] at hx400_0)
        replace p400 := eq_true p400
        replace q400 := eq_true q400
        go_enter Try.func15, Try.ntmps15
        try go_wp2_with (first | ((with_reducible refine gate_callee (f := 31) rfl ?_); refine goesL_ (some 18) rfl rfl Try.func31 (by kernel_rfl) rfl #[.slice A0 l0.length c0, .string (rdOf ByteArray.empty l1 0)] rfl (by (try simp only [List.map_toArray, List.map_cons, List.map_nil]); first | done | rfl | (simp only [List.length_drop, List.length_take]; rfl)) ?_; (with_reducible refine (cadenceref2_Kid.calls k (fun k_ => ((P0_ k_ ∨ P2_ k_) ∨ w.heap.size ≤ k_)) _ _ l0 (rdOf ByteArray.empty l1 0) t401 t404 _ ?side1 A6.out).mono ?_); (case side1 => exact HO0.out); rintro e w10 ⟨v402, rfl, ho0, hb⟩; refine ⟨_, rfl, ?_⟩; have n0_ := Aside0.mk (Kd.V_below (by (with_reducible repeat (first | apply vA_ | apply vN_ | apply vD_)); exact HO0.out) hb); have n1_ := Aside0.mk (Kd.V_below (by (with_reducible repeat (first | apply vA_ | apply vN_ | apply vD_)); exact HO2.out) hb); have n2_ := Aside0.mk (Kd.V_lower (Kd.V_mono (ok' := fun k_ => ((P0_ k_ ∨ P2_ k_) ∨ w.heap.size ≤ k_)) ho0 (fun k_ hk_ => Or.elim hk_ (fun hs_ => hs_) (fun hn_ => (.inr (Nat.le_trans (below_size (by repeat (first | (with_reducible first | exact HB.out | apply bA_ | apply bN_ | apply bD_) | exact HB.out))) hn_))))) (below_size (by repeat (first | (with_reducible first | exact HB.out | apply bA_ | apply bN_ | apply bD_) | exact HB.out)))); have n3_ := Aside0.mk (below_step (by repeat (first | (with_reducible first | exact HB.out | apply bA_ | apply bN_ | apply bD_) | exact HB.out)) hb); clear HO0; clear HO2; clear HB; have HO0 := n0_; have HO2 := n1_; have HO403 := n2_; have HB := n3_; clear n0_ n1_ n2_ n3_; (try clear hb); (try clear hb2); (try clear hk); (try clear hi); (try clear ho0)))
        have n0_ := Aside0.mk (vD_ HO0.out)
        have n1_ := Aside0.mk (vD_ HO2.out)
        have n2_ := Aside0.mk (vD_ HO403.out)
        have n3_ := Aside0.mk (bD_ HB.out)
        clear HO0
        clear HO2
        clear HO403
        clear HB
        have HO0 := n0_
        have HO2 := n1_
        have HO403 := n2_
        have HB := n3_
        clear n0_ n1_ n2_ n3_
        have p405 : 0 ≤ (0 : Int) := (by omega)
        have q405 : 0 < (l1.length : Int) := of_decide_eq_true (by first | (with_reducible assumption) | assumption)
        obtain ⟨ad405, e405, hx405_0⟩ := Kd.at_string HR1.out 0 p405 q405
        have hw405_0 := hx405_0
        (try rw [show ((0 : Int)).toNat = 0 from rfl] at hw405_0)
        (try rw [show 0 * 1 = 0 from rfl] at hw405_0)
        (try rw [Addr.add_zero'] at hw405_0)
        obtain rfl : ad400 = ad405 := (by injection e405)
        have qi405 : (0 < l1.length) = True := eq_true (by omega)
        (try rw [show ((0 : Int)).toNat = 0 from rfl] at hx405_0)
        (try rw [Addr.add_zero'] at hx405_0)
        replace hx405_0 := (HB.out.cell (World.block_lt_of_cell? w _ hx405_0)).trans hx405_0
        replace p405 := eq_true p405
        replace q405 := eq_true q405
        obtain ⟨i012, hi012, _, hsz12, _⟩ := info_parts info9
        obtain ⟨A12, hcut12, hA12, hC12⟩ := print_drop_of (P := Try.prog) Value.string (⟨#[]⟩ : ByteArray) 31 9 .i64 Try.underlying31 hi012 hsz12 (some ad400) c1 l1 1 (by omega) (of_decide_eq_true (by first | (with_reducible assumption) | assumption)) HC1.out
        have HR406 := Aside0.mk (Kd.C_of_reads (h1 := fun _ => rfl) (hA12 _ (Kd.reads_of_C HR1.out)))
        have HC406 := Aside0.mk hC12
        clear hA12 hC12 hi012 hsz12
        obtain ⟨Ao13, co13, eo13⟩ := Kd.V_slice HO403.out
        (first | subst eo13 | (injection eo13 with f1_ f2_ f3_; have f4_ := f1_.symm; have f5_ := f3_.symm; clear f1_ f2_ f3_; subst f4_; subst f5_))
        refine start_ (n := 11) (S := fun w' => w'.cell? ad400 = some (.string (rdOf ByteArray.empty l1 0))) (ds := []) #[false, false, false, false, false, false, false, false, false, false, false] (by kernel_rfl) rfl rfl (((HB.out.cell (World.block_lt_of_cell? w _ hw405_0)).trans hw405_0)) (fun hHeld => ?_); refine with_tabW cadenceref2_Put.tab4 cadenceref2_Put.bits4 (fun HT_ HW_ => ?_)
        generalize w10.drew = w11 at HO0 HO2 HO403 HB HR406 hx405_0 hHeld ⊢
        refine pure_ (i := 0) (N := some 21) (v := ?_) (a' := ?_) #[true, false, false, false, false, false, false, false, false, false, false] rfl rfl (any_of HT_.out (by kernel_rfl)) (fun _ _ _ h => h) (Or.inl ⟨by rfl, ?_⟩) ?_ ?_
        rotate_left
        · intro w'
          go_simp
          with_reducible rfl
        rotate_left
        · simp only [Act.put, List.setIfInBounds_toArray, List.set_cons_zero, List.set_cons_succ, i64_w, i32_w]
          rfl
        refine pure_ (i := 1) (N := some 22) (v := ?_) (a' := ?_) #[true, true, false, false, false, false, false, false, false, false, false] rfl rfl (any_of HT_.out (by kernel_rfl)) (fun _ _ _ h => h) (Or.inl ⟨by rfl, ?_⟩) ?_ ?_
        rotate_left
        · intro w'
          go_simp
          with_reducible rfl
        rotate_left
        · simp only [Act.put, List.setIfInBounds_toArray, List.set_cons_zero, List.set_cons_succ, i64_w, i32_w]
          rfl
        refine pure_ (i := 2) (N := some 23) (v := ?_) (a' := ?_) #[true, true, true, false, false, false, false, false, false, false, false] rfl rfl (any_of HT_.out (by kernel_rfl)) (fun _ _ _ h => h) (Or.inl ⟨by rfl, ?_⟩) ?_ ?_
        rotate_left
        · intro w'
          go_simp
          with_reducible rfl
        rotate_left
        · simp only [Act.put, List.setIfInBounds_toArray, List.set_cons_zero, List.set_cons_succ, i64_w, i32_w]
          rfl
        refine pure_ (i := 4) (N := some 25) (v := ?_) (a' := ?_) #[true, true, true, false, true, false, false, false, false, false, false] rfl rfl (any_of HT_.out (by kernel_rfl)) (fun _ _ _ h => h) (Or.inl ⟨by rfl, ?_⟩) ?_ ?_
        rotate_left
        · intro w'
          go_simp
          with_reducible rfl
        rotate_left
        · simp only [Act.put, List.setIfInBounds_toArray, List.set_cons_zero, List.set_cons_succ, i64_w, i32_w]
          rfl
        refine pure_ (i := 5) (N := some 26) (v := ?_) (a' := ?_) #[true, true, true, false, true, true, false, false, false, false, false] rfl rfl (any_of HT_.out (by kernel_rfl)) (fun _ _ _ h => h) (Or.inl ⟨by rfl, ?_⟩) ?_ ?_
        rotate_left
        · intro w'
          go_simp
          with_reducible rfl
        rotate_left
        · simp only [Act.put, List.setIfInBounds_toArray, List.set_cons_zero, List.set_cons_succ, i64_w, i32_w]
          rfl
        refine pure_ (i := 6) (N := some 27) (v := ?_) (a' := ?_) #[true, true, true, false, true, true, true, false, false, false, false] rfl rfl (any_of HT_.out (by kernel_rfl)) (fun _ _ _ h => h) (Or.inl ⟨by rfl, ?_⟩) ?_ ?_
        rotate_left
        · intro w'
          go_simp
          with_reducible rfl
        rotate_left
        · simp only [Act.put, List.setIfInBounds_toArray, List.set_cons_zero, List.set_cons_succ, i64_w, i32_w]
          rfl
        refine pure_ (i := 7) (N := some 28) (v := ?_) (a' := ?_) #[true, true, true, false, true, true, true, true, false, false, false] rfl rfl (any_of HT_.out (by kernel_rfl)) (fun _ _ _ h => h) (Or.inl ⟨by rfl, ?_⟩) ?_ ?_
        rotate_left
        · intro w'
          go_simp
          with_reducible rfl
        rotate_left
        · simp only [Act.put, List.setIfInBounds_toArray, List.set_cons_zero, List.set_cons_succ, i64_w, i32_w]
          rfl
        refine take_ (i := 3) (N := some 24) (v := ?_) (a' := ?_) #[true, true, true, true, true, true, true, true, false, false, false] rfl rfl (take_ofW HT_.out HW_.out (by kernel_rfl)) (fun _ _ _ h => h) (Or.inl ⟨by rfl, ?_⟩) hHeld ?_ ?_
        rotate_left
        · intro w' s0
          go_simp
          with_reducible rfl
        rotate_left
        · simp only [Act.put, List.setIfInBounds_toArray, List.set_cons_zero, List.set_cons_succ, i64_w, i32_w]
          rfl
        refine one_ (i := 8) (N := some 29) #[true, true, true, true, true, true, true, true, true, false, false] rfl rfl (one_of HT_.out (by kernel_rfl)) (by decide) (fun K hK => ?_)
        refine goes_ Try.func15 (by kernel_rfl) rfl #[.slice Ao13 t401.length co13, .slice A12 (l1.drop 1).length (c1 - 1), .slice A2 l2.length c2] (by rfl) rfl rfl (by (try simp only [List.map_toArray, List.map_cons, List.map_nil]); first | done | (rw [show (l1.drop 1).length = (l1.length - 1) from List.length_drop] <;> rfl) | rfl | (simp only [List.length_drop, List.length_take]; rfl)) ?_
        with_reducible refine (ih k (by omega) (fun k_ => ((P0_ k_ ∨ P2_ k_) ∨ w.heap.size ≤ k_)) _ _ t401 _ _ (l1.drop 1) (fun k_ => ((P0_ k_ ∨ P2_ k_) ∨ w.heap.size ≤ k_)) _ _ l2 t407 _ ?side1 ?side2 ?side3 ?side4 A8.out).mono ?_
        (case side1 => exact HO403.out)
        (case side2 => repeat (first | exact (Kd.C_below HR406.out HB.out) | (with_reducible refine cA_ ?_ _) | (with_reducible refine cN_ ?_ _) | (with_reducible refine cD_ ?_)))
        (case side3 => exact HC406.out)
        (case side4 => exact HO2.out)
        rintro e w14 ⟨v408, rfl, ho0, hb⟩
        refine ⟨_, rfl, ?_⟩
        have n0_ := Aside0.mk (Kd.V_below (by (with_reducible repeat (first | apply vA_ | apply vN_ | apply vD_)); exact HO0.out) hb)
        have n1_ := Aside0.mk (Kd.V_below (by (with_reducible repeat (first | apply vA_ | apply vN_ | apply vD_)); exact HO2.out) hb)
        have n2_ := Aside0.mk (Kd.V_below (by (with_reducible repeat (first | apply vA_ | apply vN_ | apply vD_)); exact HO403.out) hb)
        have n3_ := Aside0.mk (Kd.V_lower (Kd.V_mono (ok' := fun k_ => ((P0_ k_ ∨ P2_ k_) ∨ w.heap.size ≤ k_)) ho0 (fun k_ hk_ => Or.elim hk_ (fun hs_ => Or.elim hs_ (fun hs_ => hs_) (fun hs_ => hs_)) (fun hn_ => (.inr (Nat.le_trans (below_size (by repeat (first | (with_reducible first | exact HB.out | apply bA_ | apply bN_ | apply bD_) | exact HB.out))) hn_))))) (below_size (by repeat (first | (with_reducible first | exact HB.out | apply bA_ | apply bN_ | apply bD_) | exact HB.out))))
        have n4_ := Aside0.mk (below_step (by repeat (first | (with_reducible first | exact HB.out | apply bA_ | apply bN_ | apply bD_) | exact HB.out)) hb)
        clear HO0
        clear HO2
        clear HO403
        clear HB
        have HO0 := n0_
        have HO2 := n1_
        have HO403 := n2_
        have HO409 := n3_
        have HB := n4_
        clear n0_ n1_ n2_ n3_ n4_
        (try clear hb)
        (try clear hb2)
        (try clear hk)
        (try clear hi)
        (try clear ho0)
        obtain ⟨Ao15, co15, eo15⟩ := Kd.V_slice HO409.out
        (first | subst eo15 | (injection eo15 with f1_ f2_ f3_; have f4_ := f1_.symm; have f5_ := f3_.symm; clear f1_ f2_ f3_; subst f4_; subst f5_))
        refine hK.out _ _ (((HB.out.cell (World.block_lt_of_cell? w _ hw405_0)).trans hw405_0)) (fun hHeld => ?_)
        clear hK K
        refine norm_ (a' := ?_) ?_ ?_
        rotate_left
        · show Act.put _ (some 29) _ = _
          simp only [Act.put, List.setIfInBounds_toArray, List.set_cons_zero, List.set_cons_succ, i64_w, i32_w]
          rfl
        refine one_ (i := 9) (N := some 30) #[true, true, true, true, true, true, true, true, true, true, false] rfl rfl (one_of HT_.out (by kernel_rfl)) (by decide) (fun K hK => ?_)
        refine goes_ Try.func24 (by kernel_rfl) rfl #[.slice A0 l0.length c0, .string (rdOf ByteArray.empty l1 0), .slice Ao15 t407.length co15] (by rfl) rfl rfl (by (try simp only [List.map_toArray, List.map_cons, List.map_nil]); first | done | rfl | (simp only [List.length_drop, List.length_take]; rfl)) ?_
        with_reducible refine (cadenceref2_With.calls k (fun k_ => ((P0_ k_ ∨ P2_ k_) ∨ w.heap.size ≤ k_)) _ _ l0 (rdOf ByteArray.empty l1 0) (fun k_ => ((P0_ k_ ∨ P2_ k_) ∨ w.heap.size ≤ k_)) _ _ t407 t410 _ ?side1 ?side2 A9.out).mono ?_
        (case side1 => exact HO0.out)
        (case side2 => exact HO409.out)
        rintro e w16 ⟨v411, rfl, ho0, hb⟩
        refine ⟨_, rfl, ?_⟩
        have n0_ := Aside0.mk (Kd.V_elder' (by (with_reducible repeat (first | apply vA_ | apply vN_ | apply vD_)); exact HO0.out) (Kd.N_base ho0) hb)
        have n1_ := Aside0.mk (Kd.V_elder' (by (with_reducible repeat (first | apply vA_ | apply vN_ | apply vD_)); exact HO2.out) (Kd.N_base ho0) hb)
        have n2_ := Aside0.mk (Kd.V_elder' (by (with_reducible repeat (first | apply vA_ | apply vN_ | apply vD_)); exact HO403.out) (Kd.N_base ho0) hb)
        have n3_ := Aside0.mk (Kd.V_elder' (by (with_reducible repeat (first | apply vA_ | apply vN_ | apply vD_)); exact HO409.out) (Kd.N_base ho0) hb)
        have n4_ := Aside0.mk (Kd.N_lower (Kd.N_mono (ok' := fun k_ => ((P0_ k_ ∨ P2_ k_) ∨ w.heap.size ≤ k_)) ho0 (fun k_ hk_ => Or.elim hk_ (fun hs_ => Or.elim hs_ (fun hs_ => hs_) (fun hs_ => hs_)) (fun hn_ => (.inr (Nat.le_trans (below_size (by repeat (first | (with_reducible first | exact HB.out | apply bA_ | apply bN_ | apply bD_) | exact HB.out))) hn_))))) (below_size (by repeat (first | (with_reducible first | exact HB.out | apply bA_ | apply bN_ | apply bD_) | exact HB.out))))
        have n5_ := Aside0.mk (below_step (by repeat (first | (with_reducible first | exact HB.out | apply bA_ | apply bN_ | apply bD_) | exact HB.out)) hb)
        clear HO0
        clear HO2
        clear HO403
        clear HO409
        clear HB
        have HO0 := n0_
        have HO2 := n1_
        have HO403 := n2_
        have HO409 := n3_
        have HO412 := n4_
        have HB := n5_
        clear n0_ n1_ n2_ n3_ n4_ n5_
        (try clear hb)
        (try clear hb2)
        (try clear hk)
        (try clear hi)
        (try clear ho0)
        refine hK.out _ _ (((HB.out.cell (World.block_lt_of_cell? w _ hw405_0)).trans hw405_0)) (fun hHeld => ?_)
        clear hK K
        refine norm_ (a' := ?_) ?_ ?_
        rotate_left
        · show Act.put _ (some 30) _ = _
          simp only [Act.put, List.setIfInBounds_toArray, List.set_cons_zero, List.set_cons_succ, i64_w, i32_w]
          rfl
        refine pure_ (i := 10) (N := some 6) (v := ?_) (a' := ?_) #[true, true, true, true, true, true, true, true, true, true, true] rfl rfl (any_of HT_.out (by kernel_rfl)) (fun _ _ _ h => h) (Or.inl ⟨by rfl, ?_⟩) ?_ ?_
        rotate_left
        · intro w'
          go_simp
          with_reducible rfl
        rotate_left
        · simp only [Act.put, List.setIfInBounds_toArray, List.set_cons_zero, List.set_cons_succ, i64_w, i32_w]
          rfl
        refine done_ (done_of HT_.out (by kernel_rfl)) ?_
        try go_wp2
        go_ret
        exact ⟨_, by first | rfl | (simp [errW_none, errW_some] <;> rfl) | (simp [*, errW_none, errW_some] <;> rfl), Kd.N_V (by (with_reducible repeat (first | apply nA_ | apply nN_ | apply nD_)); exact HO412.out), by repeat (first | (with_reducible first | exact HB.out | apply bA_ | apply bN_ | apply bD_) | exact HB.out)⟩
      · rw [if_neg c7] at H
        exact absurd H (by simp)
    · rw [if_neg c5] at H
      exact absurd H (by simp)

end Go.Proofs.Ytbhgocpenbibgaa.PX
/- The reference's Get, Put, Without, Drop. -/
set_option linter.unusedVariables false
namespace Go.Proofs.Ytbhgocpenbibgaa.PX
open Go.RowKit Go.Proofs.YtbhgocpenbibgaaW.PrintWords Go.Proofs.YtbhgocpenbibgaaW.PrintLast Go.Proofs.YtbhgocpenbibgaaW.PrintMore Go.Proofs.Ytbhgocpenbibgaa
def putM : Tr → List ByteArray → Tr → Tr
  | _, [], x => x
  | t, n :: p, x => withT t n (putM ((kid t n).getD []) p x)
def dropM : Tr → List ByteArray → Tr
  | _, [] => []
  | t, n :: p => match kid t n with
    | none => t
    | some x => if p = [] then dropT t n else withT t n (dropM x p)
theorem refGet_ev {W : Nat} (hW : W ≤ 1000000) {d : Nat} {t : Tr} (p : List ByteArray) (ht : Ok W d t) (hp : p.length ≤ 1000000) : Ev (fun k => cadenceref2_Get.f k t p) (getR t p) := by
  have loop : ∀ (m i : Nat) (t : Tr), i + m = p.length → Ok W d t → Ev (fun k => cadenceref2_Get.l0 k t p (i : Int)) (getR t (p.drop i)) := by
    intro m
    induction m with
    | zero =>
      intro i t hi ht
      rw [List.drop_eq_nil_of_le (by omega)]
      refine Ev.step (f := fun _ => some (t, true)) (fun k => ?_) (Ev.now _)
      simp only [cadenceref2_Get.l0]
      rw [if_neg (by omega)]
    | succ m ih =>
      intro i t hi ht
      have hil : i < p.length := by omega
      have htl := ht.length
      rw [List.drop_eq_getElem_cons hil]
      have hk := kid_ev t p[i] (by omega)
      cases e : kid t p[i] with
      | none =>
        rw [e] at hk
        refine Ev.step (f := fun k => (cadenceref2_Kid.f k t p[i]).bind fun u => if u.2 = true then cadenceref2_Get.l0 k u.1 p ((i + 1 : Nat) : Int) else some ([], false)) (fun k => ?_) (Ev.bind hk (by rw [getR, e]; exact Ev.congr (fun k => if_neg (by simp)) (Ev.now _)))
        simp only [cadenceref2_Get.l0]
        rw [if_pos (by omega), if_pos (by omega), rdOf_nat hil, wrap_succ (by omega)]
      | some x =>
        rw [e] at hk
        refine Ev.step (f := fun k => (cadenceref2_Kid.f k t p[i]).bind fun u => if u.2 = true then cadenceref2_Get.l0 k u.1 p ((i + 1 : Nat) : Int) else some ([], false)) (fun k => ?_) (Ev.bind hk (by rw [getR, e]; exact Ev.congr (fun k => if_pos rfl) (ih (i + 1) x (by omega) (ht.kidle e))))
        simp only [cadenceref2_Get.l0]
        rw [if_pos (by omega), if_pos (by omega), rdOf_nat hil, wrap_succ (by omega)]
  exact loop p.length 0 t (by omega) ht
theorem put_ev {W : Nat} (hW : W ≤ 1000000000) (x : Tr) : ∀ (p : List ByteArray) {d : Nat} {t : Tr}, Ok W d t → p.length ≤ 1000000 → Ev (fun k => cadenceref2_Put.f k t p x) (putM t p x)
  | [], d, t, ht, hp => Ev.step (f := fun _ => some x) (fun k => by simp only [cadenceref2_Put.f]; rw [if_pos (by simp)]) (Ev.now _)
  | n :: p, d, t, ht, hp => by
    have htl := ht.length
    have hk := kid_ev t n (by omega)
    have h0 : Ok W d ((kid t n).getD []) := by
      cases e : kid t n with
      | none => exact Ok.nil _ _
      | some x => exact ht.kidle e
    have hl : ((n :: p).length : Int) = (p.length : Int) + 1 := by simp
    refine Ev.step (f := fun k => (cadenceref2_Kid.f k t n).bind fun u => (cadenceref2_Put.f k u.1 p x).bind fun v => (cadenceref2_With.f k t n v).bind fun q => some q) (fun k => ?_) (Ev.bind hk (Ev.bind (put_ev hW x p h0 (by simp at hp; omega)) (Ev.bind (with_ev t n _ (by omega)) (Ev.now _))))
    simp only [cadenceref2_Put.f]
    rw [if_neg (by omega), if_pos (by omega)]
    have hn : rdOf ByteArray.empty (n :: p) 0 = n := rfl
    rw [hn]
    congr 1
    funext u
    rw [if_pos (by omega)]
    rfl
theorem getR_ok {W : Nat} : ∀ {d : Nat} {t x : Tr} {p : List ByteArray}, Ok W d t → getR t p = (x, true) → p.length ≤ d ∧ Ok W (d - p.length) x
  | d, t, x, [], ht, h => by
    rw [getR] at h
    injection h with h _
    subst h
    exact ⟨Nat.zero_le _, ht⟩
  | 0, t, x, n :: p, ht, h => by
    rw [show t = [] from ht, getR] at h
    cases h
  | d + 1, t, x, n :: p, ht, h => by
    rw [getR] at h
    cases e : kid t n with
    | none => rw [e] at h; cases h
    | some y =>
      rw [e] at h
      obtain ⟨h1, h2⟩ := getR_ok (ht.kid e) h
      refine ⟨by simpa using h1, ?_⟩
      rw [List.length_cons, show d + 1 - (p.length + 1) = d - p.length by omega]
      exact h2
theorem putM_ok {W : Nat} : ∀ {d : Nat} {t x : Tr} {p : List ByteArray}, Ok W d t → p.length ≤ d → Ok W (d - p.length) x → Ok (W + 1) d (putM t p x)
  | d, t, x, [], ht, hp, hx => hx.wide (Nat.le_succ _)
  | 0, t, x, n :: p, ht, hp, hx => by simp at hp
  | d + 1, t, x, n :: p, ht, hp, hx => by
    rw [List.length_cons, show d + 1 - (p.length + 1) = d - p.length by omega] at hx
    have h1 := putM_ok (ht.kid0 (n := n)) (by simpa using hp) hx
    rw [putM]
    exact (ht.wide (Nat.le_succ _)).withT h1 (Nat.le_trans (withT_length _ _ _) (Nat.succ_le_succ ht.length))
theorem dropM_ok {W : Nat} : ∀ {d : Nat} {t : Tr} {p : List ByteArray}, Ok W d t → Ok W d (dropM t p)
  | d, t, [], ht => Ok.nil _ _
  | 0, t, n :: p, ht => by
    rw [show t = [] from ht]
    exact Ok.nil _ _
  | d + 1, t, n :: p, ht => by
    rw [dropM]
    cases e : kid t n with
    | none => exact ht
    | some x =>
      dsimp only
      split
      · exact ht.dropT
      · have hl : (withT t n (dropM x p)).length ≤ W := by
          have h1 : hasAt t n = true := by rw [hasAt_kid, e]; rfl
          obtain ⟨h2, _⟩ := kid_pos t n x e
          have h3 := ht.length
          rw [withT_eq, h1]
          simp only [if_true, List.length_append, List.length_take, List.length_cons, List.length_drop]
          omega
        exact ht.withT (dropM_ok (ht.kid e)) hl
end Go.Proofs.Ytbhgocpenbibgaa.PX
/- What the paths say of the trees: plain lists, no program. -/
set_option linter.unusedVariables false
namespace Go.Proofs.Ytbhgocpenbibgaa.PX
open Go.RowKit Go.Proofs.Ytbhgocpenbibgaa
def mend (b c : Tr) (p : List ByteArray) : Tr := if (getR b p).2 = true then putM c p (getR b p).1 else dropM c p
theorem names_nodup (ts : List Tr) : (namesOf ts).Nodup := by
  unfold namesOf
  have h := ofL_sorted (ts.flatMap nms)
  refine List.pairwise_map.2 (h.imp fun hlt e => ?_)
  have : tl (ba _) = tl (ba _) := congrArg tl e
  rw [tl_ba, tl_ba] at this
  subst this
  exact List.lt_irrefl _ hlt
theorem pathsM_ne : ∀ {d : Nat} {a b : Tr} {p : List ByteArray}, p ∈ pathsM d a b → p ≠ []
  | 0, _, _, p, h => by simp [pathsM] at h
  | d + 1, a, b, p, h => by
    rw [pathsM, List.mem_flatMap] at h
    obtain ⟨n, _, h⟩ := h
    unfold stepP at h
    split at h
    · obtain ⟨q, hq, rfl⟩ := List.mem_map.1 h
      simp
    · obtain rfl := List.mem_singleton.1 h
      simp
theorem pathsM_self : ∀ {W d : Nat} {a : Tr}, Ok W d a → pathsM d a a = []
  | W, 0, a, _ => rfl
  | W, d + 1, a, ha => by
    rw [pathsM, List.flatMap_eq_nil_iff]
    intro n hn
    have h1 := (mem_names2 ha.sorted ha.sorted).1 hn
    unfold stepP
    cases e : kid a n with
    | none => rw [e] at h1; simp at h1
    | some x =>
      simp only
      rw [pathsM_self (ha.kid e)]
      rfl
theorem mend_ok {W d : Nat} {b c : Tr} {p : List ByteArray} (hb : Ok W d b) (hc : Ok W d c) : Ok (W + 1) d (mend b c p) := by
  unfold mend
  split
  · rename_i h
    have e : getR b p = ((getR b p).1, true) := by rw [← h]
    obtain ⟨h1, h2⟩ := getR_ok hb e
    exact putM_ok hc h1 h2
  · exact (dropM_ok hc).wide (Nat.le_succ _)
/-- The trees on the way. -/
theorem mends_ok {W d : Nat} {b : Tr} (hb : Ok W d b) : ∀ (P : List (List ByteArray)) {V : Nat} {c : Tr}, W ≤ V → Ok V d c → Ok (V + P.length) d (P.foldl (mend b) c)
  | [], V, c, _, hc => hc
  | p :: P, V, c, hV, hc => by
    have h1 := mends_ok hb P (Nat.le_succ_of_le hV) (mend_ok (hb.wide hV) hc (p := p))
    rw [List.foldl_cons, List.length_cons, show V + (P.length + 1) = V + 1 + P.length by omega]
    exact h1
theorem kid_eq_of (t : Tr) : (∀ m, kid t m = kid t m) := fun _ => rfl
theorem mend_cons {b c x y : Tr} {n : ByteArray} {p : List ByteArray} (hp : p ≠ []) (hc : kid c n = some x) (hb : kid b n = some y) : mend b c (n :: p) = withT c n (mend y x p) := by
  unfold mend
  rw [getR, hb]
  dsimp only
  split
  · rw [putM, hc]
    rfl
  · rw [dropM, hc]
    dsimp only
    rw [if_neg hp]
/-- Below one name. -/
theorem mends_below {b y : Tr} {n : ByteArray} (hb : kid b n = some y) : ∀ (q : List (List ByteArray)) {c x : Tr}, (∀ p ∈ q, p ≠ []) → Sorted c → kid c n = some x →
    Sorted ((q.map (n :: ·)).foldl (mend b) c) ∧ ∀ m, kid ((q.map (n :: ·)).foldl (mend b) c) m = if m = n then some (q.foldl (mend y) x) else kid c m
  | [], c, x, _, hs, hc => ⟨hs, fun m => by
      by_cases e : m = n
      · subst e; rw [if_pos rfl]; exact hc
      · rw [if_neg e]; rfl⟩
  | p :: q, c, x, hq, hs, hc => by
    have h1 := mend_cons (hq p List.mem_cons_self) hc hb
    obtain ⟨h2, h3⟩ := mends_below hb q (c := withT c n (mend y x p)) (x := mend y x p) (fun p hp => hq p (List.mem_cons_of_mem _ hp)) (sorted_withT hs) (by rw [kid_withT hs, if_pos rfl])
    rw [List.map_cons, List.foldl_cons, h1]
    refine ⟨h2, fun m => ?_⟩
    rw [h3 m]
    by_cases e : m = n
    · rw [if_pos e, if_pos e]; rfl
    · rw [if_neg e, if_neg e, kid_withT hs, if_neg e]
theorem mends_all {W : Nat} : ∀ {d : Nat} {a b : Tr}, Ok W d a → Ok W d b → (pathsM d a b).foldl (mend b) a = b
  | 0, a, b, ha, hb => by
    rw [show a = [] from ha, show b = [] from hb]
    rfl
  | d + 1, a, b, ha, hb => by
    have hnd := names_nodup [a, b]
    have hmem := fun n => mem_names2 (n := n) ha.sorted hb.sorted
    rw [pathsM]
    have key : ∀ (N : List ByteArray) (c : Tr), N.Nodup → Sorted c → (∀ n ∈ N, kid c n = kid a n) → Sorted ((N.flatMap (stepP (pathsM d) a b)).foldl (mend b) c) ∧ ∀ m, kid ((N.flatMap (stepP (pathsM d) a b)).foldl (mend b) c) m = if m ∈ N then kid b m else kid c m := by
      intro N
      induction N with
      | nil => intro c _ hs _; exact ⟨hs, fun m => by simp⟩
      | cons n N ih =>
        intro c hN hs hc
        obtain ⟨hn, hN⟩ := List.nodup_cons.1 hN
        have hcn := hc n List.mem_cons_self
        have one : Sorted ((stepP (pathsM d) a b n).foldl (mend b) c) ∧ ∀ m, kid ((stepP (pathsM d) a b n).foldl (mend b) c) m = if m = n then kid b n else kid c m := by
          unfold stepP
          cases ea : kid a n with
          | none =>
            rw [ea] at hcn
            simp only [List.foldl_cons, List.foldl_nil]
            unfold mend
            rw [getR_one]
            cases eb : kid b n with
            | none =>
              simp only [Option.isSome_none, Bool.false_eq_true, if_false]
              rw [dropM, hcn]
              refine ⟨hs, fun m => ?_⟩
              by_cases e : m = n
              · subst e; rw [if_pos rfl]; exact hcn
              · rw [if_neg e]
            | some y =>
              simp only [Option.isSome_some, if_true, Option.getD_some]
              rw [putM, putM]
              exact ⟨sorted_withT hs, fun m => kid_withT hs m⟩
          | some x =>
            rw [ea] at hcn
            cases eb : kid b n with
            | none =>
              simp only [List.foldl_cons, List.foldl_nil]
              unfold mend
              rw [getR_one, eb]
              simp only [Option.isSome_none, Bool.false_eq_true, if_false]
              rw [dropM, hcn]
              dsimp only
              rw [if_pos rfl]
              exact ⟨sorted_dropT hs, fun m => kid_dropT hs m⟩
            | some y =>
              dsimp only
              obtain ⟨h1, h2⟩ := mends_below eb (pathsM d x y) (fun p hp => pathsM_ne hp) hs hcn
              refine ⟨h1, fun m => ?_⟩
              rw [h2 m, mends_all (ha.kid ea) (hb.kid eb)]
        obtain ⟨h1, h2⟩ := one
        rw [List.flatMap_cons, List.foldl_append]
        obtain ⟨h3, h4⟩ := ih _ hN h1 (fun m hm => by
          rw [h2 m, if_neg (show ¬ m = n from fun e => hn (e ▸ hm))]
          exact hc m (List.mem_cons_of_mem _ hm))
        refine ⟨h3, fun m => ?_⟩
        rw [h4 m, h2 m]
        by_cases e : m = n
        · subst e
          rw [if_neg hn, if_pos rfl, if_pos List.mem_cons_self]
        · by_cases hm : m ∈ N
          · rw [if_pos hm, if_pos (List.mem_cons_of_mem _ hm)]
          · rw [if_neg hm, if_neg e, if_neg (fun h => (List.mem_cons.1 h).elim e hm)]
    obtain ⟨h1, h2⟩ := key _ a hnd ha.sorted (fun _ _ => rfl)
    refine tree_ext h1 hb.sorted fun m => ?_
    rw [h2 m]
    split
    · rfl
    · rename_i hm
      have h3 : ¬ ((kid a m).isSome = true ∨ (kid b m).isSome = true) := fun h => hm ((hmem m).2 h)
      cases ea : kid a m with
      | none =>
        cases eb : kid b m with
        | none => rfl
        | some y => rw [eb] at h3; simp at h3
      | some x => rw [ea] at h3; simp at h3
end Go.Proofs.Ytbhgocpenbibgaa.PX
/- Each path is in one of the trees alone; none begins with another one. Plain lists, no program. -/
set_option linter.unusedVariables false
namespace Go.Proofs.Ytbhgocpenbibgaa.PX
open Go.RowKit Go.Proofs.Ytbhgocpenbibgaa
theorem paths_one : ∀ {d : Nat} {a b : Tr} {p : List ByteArray} {W : Nat}, Ok W d a → Ok W d b → p ∈ pathsM d a b → (getR a p).2 ≠ (getR b p).2
  | 0, _, _, p, W, _, _, h => by simp [pathsM] at h
  | d + 1, a, b, p, W, ha, hb, h => by
    rw [pathsM, List.mem_flatMap] at h
    obtain ⟨n, hn, h⟩ := h
    have h1 := (mem_names2 ha.sorted hb.sorted).1 hn
    unfold stepP at h
    cases ea : kid a n with
    | none =>
      cases eb : kid b n with
      | none => rw [ea, eb] at h1; simp at h1
      | some y =>
        rw [ea] at h
        obtain rfl := List.mem_singleton.1 h
        rw [getR_one, getR_one, ea, eb]
        simp
    | some x =>
      cases eb : kid b n with
      | none =>
        rw [ea, eb] at h
        obtain rfl := List.mem_singleton.1 h
        rw [getR_one, getR_one, ea, eb]
        simp
      | some y =>
        rw [ea, eb] at h
        obtain ⟨q, hq, rfl⟩ := List.mem_map.1 h
        rw [getR, getR, ea, eb]
        exact paths_one (ha.kid ea) (hb.kid eb) hq
theorem step_head {rec : Tr → Tr → List (List ByteArray)} {a b : Tr} {n : ByteArray} {p : List ByteArray} (h : p ∈ stepP rec a b n) : ∃ q, p = n :: q := by
  unfold stepP at h
  split at h
  · obtain ⟨q, _, rfl⟩ := List.mem_map.1 h
    exact ⟨q, rfl⟩
  · obtain rfl := List.mem_singleton.1 h
    exact ⟨[], rfl⟩
theorem paths_apart : ∀ {d : Nat} (a b : Tr), (pathsM d a b).Pairwise fun p q => ¬ p <+: q ∧ ¬ q <+: p
  | 0, _, _ => List.Pairwise.nil
  | d + 1, a, b => by
    rw [pathsM, List.pairwise_flatMap]
    refine ⟨fun n _ => ?_, (names_nodup [a, b]).imp fun hne p hp q hq => ?_⟩
    · unfold stepP
      split
      · rename_i x y _ _
        refine List.pairwise_map.2 ((paths_apart x y).imp fun h => ⟨fun h' => h.1 ?_, fun h' => h.2 ?_⟩)
        · exact (List.cons_prefix_cons.1 h').2
        · exact (List.cons_prefix_cons.1 h').2
      · exact List.pairwise_singleton _ _
    · obtain ⟨p', rfl⟩ := step_head hp
      obtain ⟨q', rfl⟩ := step_head hq
      exact ⟨fun h => hne (List.cons_prefix_cons.1 h).1, fun h => hne (List.cons_prefix_cons.1 h).1.symm⟩
theorem flatMap_one {α : Type} (f : ByteArray → List α) (n : ByteArray) : ∀ (N : List ByteArray), N.Nodup → n ∈ N → (∀ m ∈ N, m ≠ n → f m = []) → N.flatMap f = f n
  | [], _, h, _ => by cases h
  | x :: N, hN, h, hf => by
    obtain ⟨hx, hN⟩ := List.nodup_cons.1 hN
    rw [List.flatMap_cons]
    by_cases e : x = n
    · subst e
      have : N.flatMap f = [] := List.flatMap_eq_nil_iff.2 fun m hm => hf m (List.mem_cons_of_mem _ hm) fun e => hx (e ▸ hm)
      rw [this, List.append_nil]
    · rw [hf x List.mem_cons_self e, List.nil_append]
      exact flatMap_one f n N hN ((List.mem_cons.1 h).resolve_left fun e' => e e'.symm) fun m hm => hf m (List.mem_cons_of_mem _ hm)
/-- A tree with something else put at one place. -/
theorem paths_put {W : Nat} {x : Tr} : ∀ {d : Nat} {t : Tr} (p : List ByteArray), p.length ≤ d → Ok W d t → Ok W (d - p.length) x →
    ((getR t p).2 = true → pathsM d t (putM t p x) = (pathsM (d - p.length) (getR t p).1 x).map (p ++ ·)) ∧ ((getR t p).2 = false → ∃ q, q <+: p ∧ pathsM d t (putM t p x) = [q])
  | d, t, [], _, ht, hx => ⟨fun _ => by
      rw [putM, getR]
      simp, fun h => by rw [getR] at h; cases h⟩
  | 0, t, n :: p, hp, _, _ => by simp at hp
  | d + 1, t, n :: p, hp, ht, hx => by
    have hpl : p.length ≤ d := by simpa using hp
    have hx' : Ok W (d - p.length) x := by rwa [List.length_cons, show d + 1 - (p.length + 1) = d - p.length by omega] at hx
    have hu := putM_ok ht hp hx
    rw [putM] at hu ⊢
    have hk := fun m => kid_withT (n := n) (x := putM ((kid t n).getD []) p x) ht.sorted m
    generalize hz : putM ((kid t n).getD []) p x = z at hu hk ⊢
    have hn : n ∈ namesOf [t, withT t n z] := (mem_names2 ht.sorted hu.sorted).2 (.inr (by rw [hk n, if_pos rfl]; rfl))
    have hone : pathsM (d + 1) t (withT t n z) = stepP (pathsM d) t (withT t n z) n := by
      rw [pathsM]
      refine flatMap_one _ n _ (names_nodup _) hn fun m hm hmn => ?_
      have h1 := (mem_names2 ht.sorted hu.sorted).1 hm
      unfold stepP
      rw [hk m, if_neg hmn] at h1 ⊢
      cases e : kid t m with
      | none => rw [e] at h1; simp at h1
      | some y =>
        simp only
        rw [pathsM_self (ht.kid e)]
        rfl
    rw [hone]
    unfold stepP
    rw [hk n, if_pos rfl, getR]
    cases e : kid t n with
    | none =>
      refine ⟨fun h => (by cases h), fun _ => ⟨[n], ?_, rfl⟩⟩
      exact ⟨p, rfl⟩
    | some y =>
      rw [e] at hz
      simp only [Option.getD_some] at hz
      subst hz
      obtain ⟨h1, h2⟩ := paths_put p hpl (ht.kid e) hx'
      dsimp only
      refine ⟨fun h => ?_, fun h => ?_⟩
      · rw [h1 h, List.map_map, List.length_cons, show d + 1 - (p.length + 1) = d - p.length by omega]
        rfl
      · obtain ⟨q, hq, hqe⟩ := h2 h
        exact ⟨n :: q, List.cons_prefix_cons.2 ⟨rfl, hq⟩, by rw [hqe]; rfl⟩
end Go.Proofs.Ytbhgocpenbibgaa.PX
-- written by wip/tools/hybrid.py (over the kit's print.py, with functions proved by hand beside it) for this claim
namespace Go.Proofs.Ytbhgocpenbibgaa.PX
open Go.RowKit Go.Proofs.YtbhgocpenbibgaaW.PrintWords Go.Proofs.YtbhgocpenbibgaaW.PrintLast Go.Proofs.YtbhgocpenbibgaaW.PrintMore
attribute [local go_sem] max2_int min2_int max_two min_two max_three min_three max_four min_four   -- for this text's walks alone
set_option linter.unusedVariables false
set_option linter.unusedSimpArgs false

/-! ### slices_Equal_string_string: function 33 -/
def slices_Equal_string_string.l0 : Nat → List ByteArray → List ByteArray → Int → Int → Option (Bool)
  | 0, _, _, _, _ => none
  | k + 1, x0, x1, x12, x13 => if x13 < x12 then (if 0 ≤ x13 then (if x13 < (x0.length : Int) then (if x13 < (x1.length : Int) then (if (rdOf ByteArray.empty x0 x13).toList = (rdOf ByteArray.empty x1 x13).toList then (slices_Equal_string_string.l0 k x0 x1 x12 (wrap64 (x13 + 1))) else (some false)) else (none)) else (none)) else (none)) else (some true)
def slices_Equal_string_string.f (k : Nat) (l0 : List ByteArray) (l1 : List ByteArray) : Option (Bool) := if (l0.length : Int) = (l1.length : Int) then (slices_Equal_string_string.l0 k l0 l1 (l0.length : Int) 0) else (some false)
theorem slices_Equal_string_string.mono_l : ∀ k, (∀ y0 y1 y2 y3, LeO (slices_Equal_string_string.l0 k y0 y1 y2 y3) (slices_Equal_string_string.l0 (k + 1) y0 y1 y2 y3))
  | 0 => fun _ _ _ _ r h => by simp [slices_Equal_string_string.l0] at h
  | k + 1 => by
    have ih0 := slices_Equal_string_string.mono_l k
    · intro y0 y1 y2 y3
      unfold slices_Equal_string_string.l0
      repeat' first
      | (with_reducible exact ih0 _ _ _ _)
      | (with_reducible exact LeO.refl _)
      | (with_reducible exact LeO.none _)
      | (with_reducible refine LeO.ite ?_ ?_)
      | (with_reducible refine LeO.bind ?_ (fun _ => ?_))
      | exact ih0 _ _ _ _
      | exact LeO.none _
      | refine LeO.ite ?_ ?_
      | refine LeO.bind ?_ (fun _ => ?_)
theorem slices_Equal_string_string.mono : ∀ a0 a1 k, LeO (slices_Equal_string_string.f k a0 a1) (slices_Equal_string_string.f (k + 1) a0 a1) := by
  intro a0 a1 k
  have ih0 := slices_Equal_string_string.mono_l k
  unfold slices_Equal_string_string.f
  repeat' first
      | (with_reducible exact ih0 _ _ _ _)
      | (with_reducible exact LeO.refl _)
      | (with_reducible exact LeO.none _)
      | (with_reducible refine LeO.ite ?_ ?_)
      | (with_reducible refine LeO.bind ?_ (fun _ => ?_))
      | exact ih0 _ _ _ _
      | exact LeO.none _
      | refine LeO.ite ?_ ?_
      | refine LeO.bind ?_ (fun _ => ?_)
set_option maxHeartbeats 8000000 in
set_option maxRecDepth 100000 in
theorem slices_Equal_string_string.calls (k : Nat) (A0 : Option Addr) (c0 : Nat) (l0 : List ByteArray) (A1 : Option Addr) (c1 : Nat) (l1 : List ByteArray) (r : Bool) (w : World) (hr0 : Kd.C Kd.string w A0 l0.length l0) (hc0 : l0.length ≤ c0) (hr1 : Kd.C Kd.string w A1 l1.length l1) (hc1 : l1.length ≤ c1) (h : slices_Equal_string_string.f k l0 l1 = some r) :
    Calls Try.prog 33 #[.slice A0 l0.length c0, .slice A1 l1.length c1] w fun e w' => e = .returned (.bool r) ∧ Drawn0 w w' := by
  have HR0 := Aside0.mk hr0
  have HC0 := Aside0.mk hc0
  clear hr0 hc0
  have HR1 := Aside0.mk hr1
  have HC1 := Aside0.mk hc1
  clear hr1 hc1
  have H : (if (l0.length : Int) = (l1.length : Int) then (slices_Equal_string_string.l0 k l0 l1 (l0.length : Int) 0) else (some false)) = some r := h
  clear h
  by_cases c3 : (l0.length : Int) = (l1.length : Int)
  · rw [if_pos c3] at H
    have c3b0 : ((l0.length : Int) == (l1.length : Int)) = true := beq_iff_eq.mpr c3
    have c3b1 : ((l0.length : Int) != (l1.length : Int)) = false := bne_eq_false_iff_eq.mpr c3
    have c3b2 : (l0.length == l1.length) = true := by first | simpa using c3 | (simp at c3 ⊢; omega)
    clear c3
    have H' := Aside0.mk H
    clear H
    go_enter Try.func33, Try.ntmps33
    go_wp2
    repeat (go_quiet (fail); try go_wp2)
    go_loopg [13] k (fun kq v13 w' => ∃ (x13_1 : Int), v13 = .int .i64 x13_1 ∧ Aside0 (slices_Equal_string_string.l0 kq l0 l1 (l0.length : Int) x13_1 = some r) ∧ Aside0 (kq ≤ k) ∧ Drawn0 w w')
    case atStart => exact ⟨(0), (by first | rfl | (simp; done) | (simp [*]; done)), H', ⟨Nat.le_refl _⟩, by repeat (first | exact Drawn0.refl _ | apply Drawn0.step)⟩
    case round =>
      clear H'
      try clear c1
      try clear p2
      try clear c3
      try clear c3b0
      try clear c3b1
      try clear c3b2
      obtain ⟨x13_1, rfl, HA, HK1, ⟨m1, rfl⟩⟩ := hrel
      cases gk with
      | zero => exact absurd HA.out (by simp [slices_Equal_string_string.l0])
      | succ k1 =>
        have H := HA.out
        clear HA
        simp only [slices_Equal_string_string.l0] at H
        by_cases c4 : x13_1 < (l0.length : Int)
        · rw [if_pos c4] at H
          have c4b0 : decide (x13_1 < (l0.length : Int)) = true := decide_eq_true c4
          clear c4
          by_cases c5 : 0 ≤ x13_1
          · rw [if_pos c5] at H
            have c5b0 : decide (0 ≤ x13_1) = true := decide_eq_true c5
            clear c5
            by_cases c6 : x13_1 < (l0.length : Int)
            · rw [if_pos c6] at H
              have c6b0 : decide (x13_1 < (l0.length : Int)) = true := decide_eq_true c6
              clear c6
              by_cases c7 : x13_1 < (l1.length : Int)
              · rw [if_pos c7] at H
                have c7b0 : decide (x13_1 < (l1.length : Int)) = true := decide_eq_true c7
                clear c7
                by_cases c8 : (rdOf ByteArray.empty l0 x13_1).toList = (rdOf ByteArray.empty l1 x13_1).toList
                · rw [if_pos c8] at H
                  have c8b0 : ((rdOf ByteArray.empty l0 x13_1).toList == (rdOf ByteArray.empty l1 x13_1).toList) = true := beq_iff_eq.mpr c8
                  have c8b1 : ((rdOf ByteArray.empty l0 x13_1).toList != (rdOf ByteArray.empty l1 x13_1).toList) = false := bne_eq_false_iff_eq.mpr c8
                  clear c8
                  have H' := Aside0.mk H
                  clear H
                  have p228 : 0 ≤ (x13_1 : Int) := of_decide_eq_true (by first | (with_reducible assumption) | assumption)
                  have q228 : x13_1 < (l0.length : Int) := of_decide_eq_true (by first | (with_reducible assumption) | assumption)
                  obtain ⟨ad228, e228, hx228_0⟩ := Kd.at_string HR0.out x13_1 p228 q228
                  cases e228
                  replace p228 := eq_true p228
                  replace q228 := eq_true q228
                  have p229 : 0 ≤ (x13_1 : Int) := of_decide_eq_true (by first | (with_reducible assumption) | assumption)
                  have q229 : x13_1 < (l1.length : Int) := of_decide_eq_true (by first | (with_reducible assumption) | assumption)
                  obtain ⟨ad229, e229, hx229_0⟩ := Kd.at_string HR1.out x13_1 p229 q229
                  cases e229
                  replace p229 := eq_true p229
                  replace q229 := eq_true q229
                  go_wp2
                  repeat (go_quiet (fail); try go_wp2)
                  go_roundg k1
                  case measure => have := HK1.out; omega
                  case rel => exact ⟨(wrap64 (x13_1 + 1)), (by first | rfl | (simp; done) | (simp [*]; done)), H', ⟨by have := HK1.out; omega⟩, by repeat (first | exact Drawn0.refl _ | apply Drawn0.step)⟩
                · rw [if_neg c8] at H
                  have c8b0 : ((rdOf ByteArray.empty l0 x13_1).toList == (rdOf ByteArray.empty l1 x13_1).toList) = false := beq_eq_false_iff_ne.mpr c8
                  have c8b1 : ((rdOf ByteArray.empty l0 x13_1).toList != (rdOf ByteArray.empty l1 x13_1).toList) = true := bne_iff_ne.mpr c8
                  obtain rfl := Option.some.inj H
                  have p228 : 0 ≤ (x13_1 : Int) := of_decide_eq_true (by first | (with_reducible assumption) | assumption)
                  have q228 : x13_1 < (l0.length : Int) := of_decide_eq_true (by first | (with_reducible assumption) | assumption)
                  obtain ⟨ad228, e228, hx228_0⟩ := Kd.at_string HR0.out x13_1 p228 q228
                  cases e228
                  replace p228 := eq_true p228
                  replace q228 := eq_true q228
                  have p229 : 0 ≤ (x13_1 : Int) := of_decide_eq_true (by first | (with_reducible assumption) | assumption)
                  have q229 : x13_1 < (l1.length : Int) := of_decide_eq_true (by first | (with_reducible assumption) | assumption)
                  obtain ⟨ad229, e229, hx229_0⟩ := Kd.at_string HR1.out x13_1 p229 q229
                  cases e229
                  replace p229 := eq_true p229
                  replace q229 := eq_true q229
                  go_wp2
                  repeat (go_quiet (fail); try go_wp2)
                  go_ret
                  exact ⟨by first | rfl | (simp; done) | (simp [*]; done), by repeat (first | exact Drawn0.refl _ | apply Drawn0.step)⟩
              · rw [if_neg c7] at H
                exact absurd H (by simp)
            · rw [if_neg c6] at H
              exact absurd H (by simp)
          · rw [if_neg c5] at H
            exact absurd H (by simp)
        · rw [if_neg c4] at H
          have c4b0 : decide (x13_1 < (l0.length : Int)) = false := decide_eq_false c4
          clear c4
          obtain rfl := Option.some.inj H
          go_wp2
          repeat (go_quiet (fail); try go_wp2)
          go_ret
          exact ⟨by first | rfl | (simp; done) | (simp [*]; done), by repeat (first | exact Drawn0.refl _ | apply Drawn0.step)⟩
  · rw [if_neg c3] at H
    have c3b0 : ((l0.length : Int) == (l1.length : Int)) = false := beq_eq_false_iff_ne.mpr c3
    have c3b1 : ((l0.length : Int) != (l1.length : Int)) = true := bne_iff_ne.mpr c3
    have c3b2 : (l0.length == l1.length) = false := by first | simpa using c3 | (simp at c3 ⊢; omega)
    obtain rfl := Option.some.inj H
    go_enter Try.func33, Try.ntmps33
    go_wp2
    repeat (go_quiet (fail); try go_wp2)
    go_ret
    exact ⟨by first | rfl | (simp; done) | (simp [*]; done), by repeat (first | exact Drawn0.refl _ | apply Drawn0.step)⟩

end Go.Proofs.Ytbhgocpenbibgaa.PX
-- written by wip/tools/hybrid.py (over the kit's print.py, with functions proved by hand beside it) for this claim
namespace Go.Proofs.Ytbhgocpenbibgaa.PX
open Go.RowKit Go.Proofs.YtbhgocpenbibgaaW.PrintWords Go.Proofs.YtbhgocpenbibgaaW.PrintLast Go.Proofs.YtbhgocpenbibgaaW.PrintMore
attribute [local go_sem] max2_int min2_int max_two min_two max_three min_three max_four min_four   -- for this text's walks alone
set_option linter.unusedVariables false
set_option linter.unusedSimpArgs false

/-! ### diff_Front: function 19 -/
def diff_Front.f (k : Nat) (l0 : List ByteArray) (l1 : List ByteArray) : Option (Bool) := if (l0.length : Int) ≥ (l1.length : Int) then (if 0 ≤ (l1.length : Int) then (if (l1.length : Int) ≤ (l0.length : Int) then ((slices_Equal_string_string.f k (l0.take ((l1.length : Int) : Int).toNat) l1).bind fun t231 => (some t231)) else (none)) else (none)) else (some false)
theorem diff_Front.mono : ∀ a0 a1 k, LeO (diff_Front.f k a0 a1) (diff_Front.f (k + 1) a0 a1) := by
  intro a0 a1 k
  unfold diff_Front.f
  repeat' first
      | (with_reducible exact slices_Equal_string_string.mono _ _ _)
      | (with_reducible exact LeO.refl _)
      | (with_reducible exact LeO.none _)
      | (with_reducible refine LeO.ite ?_ ?_)
      | (with_reducible refine LeO.bind ?_ (fun _ => ?_))
      | exact slices_Equal_string_string.mono _ _ _
      | exact LeO.none _
      | refine LeO.ite ?_ ?_
      | refine LeO.bind ?_ (fun _ => ?_)
set_option maxHeartbeats 8000000 in
set_option maxRecDepth 100000 in
theorem diff_Front.calls (k : Nat) (A0 : Option Addr) (c0 : Nat) (l0 : List ByteArray) (A1 : Option Addr) (c1 : Nat) (l1 : List ByteArray) (r : Bool) (w : World) (hr0 : Kd.C Kd.string w A0 l0.length l0) (hc0 : l0.length ≤ c0) (hr1 : Kd.C Kd.string w A1 l1.length l1) (hc1 : l1.length ≤ c1) (h : diff_Front.f k l0 l1 = some r) :
    Calls Try.prog 19 #[.slice A0 l0.length c0, .slice A1 l1.length c1] w fun e w' => e = .returned (.bool r) ∧ Drawn0 w w' := by
  have HR0 := Aside0.mk hr0
  have HC0 := Aside0.mk hc0
  clear hr0 hc0
  have HR1 := Aside0.mk hr1
  have HC1 := Aside0.mk hc1
  clear hr1 hc1
  have H : (if (l0.length : Int) ≥ (l1.length : Int) then (if 0 ≤ (l1.length : Int) then (if (l1.length : Int) ≤ (l0.length : Int) then ((slices_Equal_string_string.f k (l0.take ((l1.length : Int) : Int).toNat) l1).bind fun t231 => (some t231)) else (none)) else (none)) else (some false)) = some r := h
  clear h
  by_cases c3 : (l0.length : Int) ≥ (l1.length : Int)
  · rw [if_pos c3] at H
    have c3b0 : decide ((l1.length : Int) ≤ (l0.length : Int)) = true := decide_eq_true c3
    have c3b1 : decide (l1.length ≤ l0.length) = true := decide_eq_true (Int.ofNat_le.mp c3)
    clear c3
    by_cases c4 : 0 ≤ (l1.length : Int)
    · rw [if_pos c4] at H
      have c4b0 := eq_true c4
      have c4b1 : decide (0 ≤ (l1.length : Int)) = true := decide_eq_true c4
      clear c4
      by_cases c5 : (l1.length : Int) ≤ (l0.length : Int)
      · rw [if_pos c5] at H
        have c5b0 := eq_true c5
        have c5b1 : decide ((l1.length : Int) ≤ (l0.length : Int)) = true := decide_eq_true c5
        clear c5
        replace H := Option.bind_eq_some_iff.mp H
        obtain ⟨t231, A60, H⟩ := H
        replace H : (some t231) = some r := H
        have A6 := Aside0.mk A60
        clear A60
        obtain rfl := Option.some.inj H
        obtain ⟨i07, hi07, _, hsz7, _⟩ := info_parts info9
        obtain ⟨hcut7, hA7, hC7⟩ := print_take_of (P := Try.prog) Value.string (⟨#[]⟩ : ByteArray) 31 9 .i64 Try.underlying31 hi07 hsz7 A0 c0 l0 (l1.length : Int) (of_decide_eq_true (by first | (with_reducible assumption) | assumption)) (of_decide_eq_true (by first | (with_reducible assumption) | assumption)) HC0.out
        have HR230 := Aside0.mk (Kd.C_of_reads (h1 := fun _ => rfl) (hA7 _ (Kd.reads_of_C HR0.out)))
        have HC230 := Aside0.mk hC7
        clear hA7 hC7 hi07 hsz7
        generalize l0.take ((l1.length : Int) : Int).toNat = L7 at *
        go_enter Try.func19, Try.ntmps19
        go_wp2_with (first | (go_at_call 33; (with_reducible refine (slices_Equal_string_string.calls k _ _ L7 _ _ l1 t231 _ ?side1 ?side2 ?side3 ?side4 A6.out).mono ?_); (case side1 => repeat (first | exact HR230.out | (with_reducible refine cA_ ?_ _) | (with_reducible refine cN_ ?_ _) | (with_reducible refine cD_ ?_))); (case side2 => exact HC230.out); (case side3 => repeat (first | exact HR1.out | (with_reducible refine cA_ ?_ _) | (with_reducible refine cN_ ?_ _) | (with_reducible refine cD_ ?_))); (case side4 => exact HC1.out); rintro e w' ⟨rfl, ⟨nd, rfl⟩⟩))
        go_ret
        exact ⟨by first | rfl | (simp; done) | (simp [*]; done), by repeat (first | exact Drawn0.refl _ | apply Drawn0.step)⟩
      · rw [if_neg c5] at H
        exact absurd H (by simp)
    · rw [if_neg c4] at H
      exact absurd H (by simp)
  · rw [if_neg c3] at H
    have c3b0 : decide ((l1.length : Int) ≤ (l0.length : Int)) = false := decide_eq_false c3
    have c3b1 : decide (l1.length ≤ l0.length) = false := decide_eq_false (fun h => c3 (Int.ofNat_le.mpr h))
    clear c3
    obtain rfl := Option.some.inj H
    go_enter Try.func19, Try.ntmps19
    go_wp2
    go_ret
    exact ⟨by first | rfl | (simp; done) | (simp [*]; done), by repeat (first | exact Drawn0.refl _ | apply Drawn0.step)⟩

end Go.Proofs.Ytbhgocpenbibgaa.PX
-- written by wip/tools/hybrid.py (over the kit's print.py, with functions proved by hand beside it) for this claim
namespace Go.Proofs.Ytbhgocpenbibgaa.PX
open Go.RowKit Go.Proofs.YtbhgocpenbibgaaW.PrintWords Go.Proofs.YtbhgocpenbibgaaW.PrintLast Go.Proofs.YtbhgocpenbibgaaW.PrintMore
attribute [local go_sem] max2_int min2_int max_two min_two max_three min_three max_four min_four   -- for this text's walks alone
set_option linter.unusedVariables false
set_option linter.unusedSimpArgs false

/-! ### cadenceref13_Front: function 21 -/
def cadenceref13_Front.l0 : Nat → List ByteArray → List ByteArray → Int → Option (Bool)
  | 0, _, _, _ => none
  | k + 1, x0, x1, x5 => if x5 < (x1.length : Int) then (if 0 ≤ x5 then (if x5 < (x0.length : Int) then (if (rdOf ByteArray.empty x0 x5).toList = (rdOf ByteArray.empty x1 x5).toList then (cadenceref13_Front.l0 k x0 x1 (wrap64 (x5 + 1))) else (some false)) else (none)) else (none)) else (some true)
def cadenceref13_Front.f (k : Nat) (l0 : List ByteArray) (l1 : List ByteArray) : Option (Bool) := if (l1.length : Int) > (l0.length : Int) then (some false) else (cadenceref13_Front.l0 k l0 l1 0)
theorem cadenceref13_Front.mono_l : ∀ k, (∀ y0 y1 y2, LeO (cadenceref13_Front.l0 k y0 y1 y2) (cadenceref13_Front.l0 (k + 1) y0 y1 y2))
  | 0 => fun _ _ _ r h => by simp [cadenceref13_Front.l0] at h
  | k + 1 => by
    have ih0 := cadenceref13_Front.mono_l k
    · intro y0 y1 y2
      unfold cadenceref13_Front.l0
      repeat' first
      | (with_reducible exact ih0 _ _ _)
      | (with_reducible exact LeO.refl _)
      | (with_reducible exact LeO.none _)
      | (with_reducible refine LeO.ite ?_ ?_)
      | (with_reducible refine LeO.bind ?_ (fun _ => ?_))
      | exact ih0 _ _ _
      | exact LeO.none _
      | refine LeO.ite ?_ ?_
      | refine LeO.bind ?_ (fun _ => ?_)
theorem cadenceref13_Front.mono : ∀ a0 a1 k, LeO (cadenceref13_Front.f k a0 a1) (cadenceref13_Front.f (k + 1) a0 a1) := by
  intro a0 a1 k
  have ih0 := cadenceref13_Front.mono_l k
  unfold cadenceref13_Front.f
  repeat' first
      | (with_reducible exact ih0 _ _ _)
      | (with_reducible exact LeO.refl _)
      | (with_reducible exact LeO.none _)
      | (with_reducible refine LeO.ite ?_ ?_)
      | (with_reducible refine LeO.bind ?_ (fun _ => ?_))
      | exact ih0 _ _ _
      | exact LeO.none _
      | refine LeO.ite ?_ ?_
      | refine LeO.bind ?_ (fun _ => ?_)
set_option maxHeartbeats 8000000 in
set_option maxRecDepth 100000 in
theorem cadenceref13_Front.calls (k : Nat) (A0 : Option Addr) (c0 : Nat) (l0 : List ByteArray) (A1 : Option Addr) (c1 : Nat) (l1 : List ByteArray) (r : Bool) (w : World) (hr0 : Kd.C Kd.string w A0 l0.length l0) (hc0 : l0.length ≤ c0) (hr1 : Kd.C Kd.string w A1 l1.length l1) (hc1 : l1.length ≤ c1) (h : cadenceref13_Front.f k l0 l1 = some r) :
    Calls Try.prog 21 #[.slice A0 l0.length c0, .slice A1 l1.length c1] w fun e w' => e = .returned (.bool r) ∧ Drawn0 w w' := by
  have HR0 := Aside0.mk hr0
  have HC0 := Aside0.mk hc0
  clear hr0 hc0
  have HR1 := Aside0.mk hr1
  have HC1 := Aside0.mk hc1
  clear hr1 hc1
  have H : (if (l1.length : Int) > (l0.length : Int) then (some false) else (cadenceref13_Front.l0 k l0 l1 0)) = some r := h
  clear h
  by_cases c3 : (l1.length : Int) > (l0.length : Int)
  · rw [if_pos c3] at H
    have c3b0 : decide ((l0.length : Int) < (l1.length : Int)) = true := decide_eq_true c3
    have c3b1 : decide (l0.length < l1.length) = true := decide_eq_true (Int.ofNat_lt.mp c3)
    clear c3
    obtain rfl := Option.some.inj H
    go_enter Try.func21, Try.ntmps21
    go_wp2
    repeat (go_quiet (fail); try go_wp2)
    go_ret
    exact ⟨by first | rfl | (simp; done) | (simp [*]; done), by repeat (first | exact Drawn0.refl _ | apply Drawn0.step)⟩
  · rw [if_neg c3] at H
    have c3b0 : decide ((l0.length : Int) < (l1.length : Int)) = false := decide_eq_false c3
    have c3b1 : decide (l0.length < l1.length) = false := decide_eq_false (fun h => c3 (Int.ofNat_lt.mpr h))
    clear c3
    have H' := Aside0.mk H
    clear H
    go_enter Try.func21, Try.ntmps21
    go_wp2
    repeat (go_quiet (fail); try go_wp2)
    go_loopg [5] k (fun kq v5 w' => ∃ (x5_1 : Int), v5 = .int .i64 x5_1 ∧ Aside0 (cadenceref13_Front.l0 kq l0 l1 x5_1 = some r) ∧ Aside0 (kq ≤ k) ∧ Drawn0 w w')
    case atStart => exact ⟨(0), (by first | rfl | (simp; done) | (simp [*]; done)), H', ⟨Nat.le_refl _⟩, by repeat (first | exact Drawn0.refl _ | apply Drawn0.step)⟩
    case round =>
      clear H'
      try clear c1
      try clear c2
      try clear p2
      try clear c3
      try clear c3b0
      try clear c3b1
      obtain ⟨x5_1, rfl, HA, HK1, ⟨m1, rfl⟩⟩ := hrel
      cases gk with
      | zero => exact absurd HA.out (by simp [cadenceref13_Front.l0])
      | succ k1 =>
        have H := HA.out
        clear HA
        simp only [cadenceref13_Front.l0] at H
        by_cases c4 : x5_1 < (l1.length : Int)
        · rw [if_pos c4] at H
          have c4b0 : decide (x5_1 < (l1.length : Int)) = true := decide_eq_true c4
          clear c4
          by_cases c5 : 0 ≤ x5_1
          · rw [if_pos c5] at H
            have c5b0 : decide (0 ≤ x5_1) = true := decide_eq_true c5
            clear c5
            by_cases c6 : x5_1 < (l0.length : Int)
            · rw [if_pos c6] at H
              have c6b0 : decide (x5_1 < (l0.length : Int)) = true := decide_eq_true c6
              clear c6
              by_cases c7 : (rdOf ByteArray.empty l0 x5_1).toList = (rdOf ByteArray.empty l1 x5_1).toList
              · rw [if_pos c7] at H
                have c7b0 : ((rdOf ByteArray.empty l0 x5_1).toList == (rdOf ByteArray.empty l1 x5_1).toList) = true := beq_iff_eq.mpr c7
                have c7b1 : ((rdOf ByteArray.empty l0 x5_1).toList != (rdOf ByteArray.empty l1 x5_1).toList) = false := bne_eq_false_iff_eq.mpr c7
                clear c7
                have H' := Aside0.mk H
                clear H
                have p232 : 0 ≤ (x5_1 : Int) := of_decide_eq_true (by first | (with_reducible assumption) | assumption)
                have q232 : x5_1 < (l0.length : Int) := of_decide_eq_true (by first | (with_reducible assumption) | assumption)
                obtain ⟨ad232, e232, hx232_0⟩ := Kd.at_string HR0.out x5_1 p232 q232
                cases e232
                replace p232 := eq_true p232
                replace q232 := eq_true q232
                have p233 : 0 ≤ (x5_1 : Int) := of_decide_eq_true (by first | (with_reducible assumption) | assumption)
                have q233 : x5_1 < (l1.length : Int) := of_decide_eq_true (by first | (with_reducible assumption) | assumption)
                obtain ⟨ad233, e233, hx233_0⟩ := Kd.at_string HR1.out x5_1 p233 q233
                cases e233
                replace p233 := eq_true p233
                replace q233 := eq_true q233
                go_wp2
                repeat (go_quiet (fail); try go_wp2)
                go_roundg k1
                case measure => have := HK1.out; omega
                case rel => exact ⟨(wrap64 (x5_1 + 1)), (by first | rfl | (simp; done) | (simp [*]; done)), H', ⟨by have := HK1.out; omega⟩, by repeat (first | exact Drawn0.refl _ | apply Drawn0.step)⟩
              · rw [if_neg c7] at H
                have c7b0 : ((rdOf ByteArray.empty l0 x5_1).toList == (rdOf ByteArray.empty l1 x5_1).toList) = false := beq_eq_false_iff_ne.mpr c7
                have c7b1 : ((rdOf ByteArray.empty l0 x5_1).toList != (rdOf ByteArray.empty l1 x5_1).toList) = true := bne_iff_ne.mpr c7
                obtain rfl := Option.some.inj H
                have p232 : 0 ≤ (x5_1 : Int) := of_decide_eq_true (by first | (with_reducible assumption) | assumption)
                have q232 : x5_1 < (l0.length : Int) := of_decide_eq_true (by first | (with_reducible assumption) | assumption)
                obtain ⟨ad232, e232, hx232_0⟩ := Kd.at_string HR0.out x5_1 p232 q232
                cases e232
                replace p232 := eq_true p232
                replace q232 := eq_true q232
                have p233 : 0 ≤ (x5_1 : Int) := of_decide_eq_true (by first | (with_reducible assumption) | assumption)
                have q233 : x5_1 < (l1.length : Int) := of_decide_eq_true (by first | (with_reducible assumption) | assumption)
                obtain ⟨ad233, e233, hx233_0⟩ := Kd.at_string HR1.out x5_1 p233 q233
                cases e233
                replace p233 := eq_true p233
                replace q233 := eq_true q233
                go_wp2
                repeat (go_quiet (fail); try go_wp2)
                go_ret
                exact ⟨by first | rfl | (simp; done) | (simp [*]; done), by repeat (first | exact Drawn0.refl _ | apply Drawn0.step)⟩
            · rw [if_neg c6] at H
              exact absurd H (by simp)
          · rw [if_neg c5] at H
            exact absurd H (by simp)
        · rw [if_neg c4] at H
          have c4b0 : decide (x5_1 < (l1.length : Int)) = false := decide_eq_false c4
          clear c4
          obtain rfl := Option.some.inj H
          go_wp2
          repeat (go_quiet (fail); try go_wp2)
          go_ret
          exact ⟨by first | rfl | (simp; done) | (simp [*]; done), by repeat (first | exact Drawn0.refl _ | apply Drawn0.step)⟩

end Go.Proofs.Ytbhgocpenbibgaa.PX
-- written by wip/tools/hybrid.py (over the kit's print.py, with functions proved by hand beside it) for this claim
namespace Go.Proofs.Ytbhgocpenbibgaa.PX
open Go.RowKit Go.Proofs.YtbhgocpenbibgaaW.PrintWords Go.Proofs.YtbhgocpenbibgaaW.PrintLast Go.Proofs.YtbhgocpenbibgaaW.PrintMore
attribute [local go_sem] max2_int min2_int max_two min_two max_three min_three max_four min_four   -- for this text's walks alone
set_option linter.unusedVariables false
set_option linter.unusedSimpArgs false

/-! ### cadencelaw13_same: function 13 -/
def cadencelaw13_same.l0 : Nat → List ByteArray → List ByteArray → Int → Option (Bool)
  | 0, _, _, _ => none
  | k + 1, x0, x1, x5 => if x5 < (x0.length : Int) then (if 0 ≤ x5 then (if x5 < (x1.length : Int) then (if (rdOf ByteArray.empty x0 x5).toList = (rdOf ByteArray.empty x1 x5).toList then (cadencelaw13_same.l0 k x0 x1 (wrap64 (x5 + 1))) else (some false)) else (none)) else (none)) else (some true)
def cadencelaw13_same.f (k : Nat) (l0 : List ByteArray) (l1 : List ByteArray) : Option (Bool) := if (l0.length : Int) = (l1.length : Int) then (cadencelaw13_same.l0 k l0 l1 0) else (some false)
theorem cadencelaw13_same.mono_l : ∀ k, (∀ y0 y1 y2, LeO (cadencelaw13_same.l0 k y0 y1 y2) (cadencelaw13_same.l0 (k + 1) y0 y1 y2))
  | 0 => fun _ _ _ r h => by simp [cadencelaw13_same.l0] at h
  | k + 1 => by
    have ih0 := cadencelaw13_same.mono_l k
    · intro y0 y1 y2
      unfold cadencelaw13_same.l0
      repeat' first
      | (with_reducible exact ih0 _ _ _)
      | (with_reducible exact LeO.refl _)
      | (with_reducible exact LeO.none _)
      | (with_reducible refine LeO.ite ?_ ?_)
      | (with_reducible refine LeO.bind ?_ (fun _ => ?_))
      | exact ih0 _ _ _
      | exact LeO.none _
      | refine LeO.ite ?_ ?_
      | refine LeO.bind ?_ (fun _ => ?_)
theorem cadencelaw13_same.mono : ∀ a0 a1 k, LeO (cadencelaw13_same.f k a0 a1) (cadencelaw13_same.f (k + 1) a0 a1) := by
  intro a0 a1 k
  have ih0 := cadencelaw13_same.mono_l k
  unfold cadencelaw13_same.f
  repeat' first
      | (with_reducible exact ih0 _ _ _)
      | (with_reducible exact LeO.refl _)
      | (with_reducible exact LeO.none _)
      | (with_reducible refine LeO.ite ?_ ?_)
      | (with_reducible refine LeO.bind ?_ (fun _ => ?_))
      | exact ih0 _ _ _
      | exact LeO.none _
      | refine LeO.ite ?_ ?_
      | refine LeO.bind ?_ (fun _ => ?_)
set_option maxHeartbeats 8000000 in
set_option maxRecDepth 100000 in
theorem cadencelaw13_same.calls (k : Nat) (A0 : Option Addr) (c0 : Nat) (l0 : List ByteArray) (A1 : Option Addr) (c1 : Nat) (l1 : List ByteArray) (r : Bool) (w : World) (hr0 : Kd.C Kd.string w A0 l0.length l0) (hc0 : l0.length ≤ c0) (hr1 : Kd.C Kd.string w A1 l1.length l1) (hc1 : l1.length ≤ c1) (h : cadencelaw13_same.f k l0 l1 = some r) :
    Calls Try.prog 13 #[.slice A0 l0.length c0, .slice A1 l1.length c1] w fun e w' => e = .returned (.bool r) ∧ Drawn0 w w' := by
  have HR0 := Aside0.mk hr0
  have HC0 := Aside0.mk hc0
  clear hr0 hc0
  have HR1 := Aside0.mk hr1
  have HC1 := Aside0.mk hc1
  clear hr1 hc1
  have H : (if (l0.length : Int) = (l1.length : Int) then (cadencelaw13_same.l0 k l0 l1 0) else (some false)) = some r := h
  clear h
  by_cases c3 : (l0.length : Int) = (l1.length : Int)
  · rw [if_pos c3] at H
    have c3b0 : ((l0.length : Int) == (l1.length : Int)) = true := beq_iff_eq.mpr c3
    have c3b1 : ((l0.length : Int) != (l1.length : Int)) = false := bne_eq_false_iff_eq.mpr c3
    have c3b2 : (l0.length == l1.length) = true := by first | simpa using c3 | (simp at c3 ⊢; omega)
    clear c3
    have H' := Aside0.mk H
    clear H
    go_enter Try.func13, Try.ntmps13
    go_wp2
    repeat (go_quiet (fail); try go_wp2)
    go_loopg [5] k (fun kq v5 w' => ∃ (x5_1 : Int), v5 = .int .i64 x5_1 ∧ Aside0 (cadencelaw13_same.l0 kq l0 l1 x5_1 = some r) ∧ Aside0 (kq ≤ k) ∧ Drawn0 w w')
    case atStart => exact ⟨(0), (by first | rfl | (simp; done) | (simp [*]; done)), H', ⟨Nat.le_refl _⟩, by repeat (first | exact Drawn0.refl _ | apply Drawn0.step)⟩
    case round =>
      clear H'
      try clear c1
      try clear p2
      try clear c3
      try clear c3b0
      try clear c3b1
      try clear c3b2
      obtain ⟨x5_1, rfl, HA, HK1, ⟨m1, rfl⟩⟩ := hrel
      cases gk with
      | zero => exact absurd HA.out (by simp [cadencelaw13_same.l0])
      | succ k1 =>
        have H := HA.out
        clear HA
        simp only [cadencelaw13_same.l0] at H
        by_cases c4 : x5_1 < (l0.length : Int)
        · rw [if_pos c4] at H
          have c4b0 : decide (x5_1 < (l0.length : Int)) = true := decide_eq_true c4
          clear c4
          by_cases c5 : 0 ≤ x5_1
          · rw [if_pos c5] at H
            have c5b0 : decide (0 ≤ x5_1) = true := decide_eq_true c5
            clear c5
            by_cases c6 : x5_1 < (l1.length : Int)
            · rw [if_pos c6] at H
              have c6b0 : decide (x5_1 < (l1.length : Int)) = true := decide_eq_true c6
              clear c6
              by_cases c7 : (rdOf ByteArray.empty l0 x5_1).toList = (rdOf ByteArray.empty l1 x5_1).toList
              · rw [if_pos c7] at H
                have c7b0 : ((rdOf ByteArray.empty l0 x5_1).toList == (rdOf ByteArray.empty l1 x5_1).toList) = true := beq_iff_eq.mpr c7
                have c7b1 : ((rdOf ByteArray.empty l0 x5_1).toList != (rdOf ByteArray.empty l1 x5_1).toList) = false := bne_eq_false_iff_eq.mpr c7
                clear c7
                have H' := Aside0.mk H
                clear H
                have p350 : 0 ≤ (x5_1 : Int) := of_decide_eq_true (by first | (with_reducible assumption) | assumption)
                have q350 : x5_1 < (l0.length : Int) := of_decide_eq_true (by first | (with_reducible assumption) | assumption)
                obtain ⟨ad350, e350, hx350_0⟩ := Kd.at_string HR0.out x5_1 p350 q350
                cases e350
                replace p350 := eq_true p350
                replace q350 := eq_true q350
                have p351 : 0 ≤ (x5_1 : Int) := of_decide_eq_true (by first | (with_reducible assumption) | assumption)
                have q351 : x5_1 < (l1.length : Int) := of_decide_eq_true (by first | (with_reducible assumption) | assumption)
                obtain ⟨ad351, e351, hx351_0⟩ := Kd.at_string HR1.out x5_1 p351 q351
                cases e351
                replace p351 := eq_true p351
                replace q351 := eq_true q351
                go_wp2
                repeat (go_quiet (fail); try go_wp2)
                go_roundg k1
                case measure => have := HK1.out; omega
                case rel => exact ⟨(wrap64 (x5_1 + 1)), (by first | rfl | (simp; done) | (simp [*]; done)), H', ⟨by have := HK1.out; omega⟩, by repeat (first | exact Drawn0.refl _ | apply Drawn0.step)⟩
              · rw [if_neg c7] at H
                have c7b0 : ((rdOf ByteArray.empty l0 x5_1).toList == (rdOf ByteArray.empty l1 x5_1).toList) = false := beq_eq_false_iff_ne.mpr c7
                have c7b1 : ((rdOf ByteArray.empty l0 x5_1).toList != (rdOf ByteArray.empty l1 x5_1).toList) = true := bne_iff_ne.mpr c7
                obtain rfl := Option.some.inj H
                have p350 : 0 ≤ (x5_1 : Int) := of_decide_eq_true (by first | (with_reducible assumption) | assumption)
                have q350 : x5_1 < (l0.length : Int) := of_decide_eq_true (by first | (with_reducible assumption) | assumption)
                obtain ⟨ad350, e350, hx350_0⟩ := Kd.at_string HR0.out x5_1 p350 q350
                cases e350
                replace p350 := eq_true p350
                replace q350 := eq_true q350
                have p351 : 0 ≤ (x5_1 : Int) := of_decide_eq_true (by first | (with_reducible assumption) | assumption)
                have q351 : x5_1 < (l1.length : Int) := of_decide_eq_true (by first | (with_reducible assumption) | assumption)
                obtain ⟨ad351, e351, hx351_0⟩ := Kd.at_string HR1.out x5_1 p351 q351
                cases e351
                replace p351 := eq_true p351
                replace q351 := eq_true q351
                go_wp2
                repeat (go_quiet (fail); try go_wp2)
                go_ret
                exact ⟨by first | rfl | (simp; done) | (simp [*]; done), by repeat (first | exact Drawn0.refl _ | apply Drawn0.step)⟩
            · rw [if_neg c6] at H
              exact absurd H (by simp)
          · rw [if_neg c5] at H
            exact absurd H (by simp)
        · rw [if_neg c4] at H
          have c4b0 : decide (x5_1 < (l0.length : Int)) = false := decide_eq_false c4
          clear c4
          obtain rfl := Option.some.inj H
          go_wp2
          repeat (go_quiet (fail); try go_wp2)
          go_ret
          exact ⟨by first | rfl | (simp; done) | (simp [*]; done), by repeat (first | exact Drawn0.refl _ | apply Drawn0.step)⟩
  · rw [if_neg c3] at H
    have c3b0 : ((l0.length : Int) == (l1.length : Int)) = false := beq_eq_false_iff_ne.mpr c3
    have c3b1 : ((l0.length : Int) != (l1.length : Int)) = true := bne_iff_ne.mpr c3
    have c3b2 : (l0.length == l1.length) = false := by first | simpa using c3 | (simp at c3 ⊢; omega)
    obtain rfl := Option.some.inj H
    go_enter Try.func13, Try.ntmps13
    go_wp2
    repeat (go_quiet (fail); try go_wp2)
    go_ret
    exact ⟨by first | rfl | (simp; done) | (simp [*]; done), by repeat (first | exact Drawn0.refl _ | apply Drawn0.step)⟩

end Go.Proofs.Ytbhgocpenbibgaa.PX
/- Rows of names compared: slices.Equal, diff.Front, the reference's Front, the law's same. -/
set_option linter.unusedVariables false
namespace Go.Proofs.Ytbhgocpenbibgaa.PX
open Go.RowKit Go.Proofs.YtbhgocpenbibgaaW.PrintWords Go.Proofs.YtbhgocpenbibgaaW.PrintLast Go.Proofs.YtbhgocpenbibgaaW.PrintMore Go.Proofs.Ytbhgocpenbibgaa
theorem toList_iff (a b : ByteArray) : a.toList = b.toList ↔ a = b := by
  rw [toList_tl, toList_tl]
  exact ⟨tl_inj, fun h => by rw [h]⟩
theorem drop_dec {a b : List ByteArray} {i : Nat} (h1 : i < a.length) (h2 : i < b.length) : decide (a.drop i = b.drop i) = (decide (a[i] = b[i]) && decide (a.drop (i + 1) = b.drop (i + 1))) := by
  rw [List.drop_eq_getElem_cons h1, List.drop_eq_getElem_cons h2, Bool.eq_iff_iff]
  simp only [decide_eq_true_eq, Bool.and_eq_true, List.cons.injEq]
theorem pre_dec {q p : List ByteArray} {i : Nat} (h1 : i < q.length) (h2 : i < p.length) : decide (q.drop i <+: p.drop i) = (decide (p[i] = q[i]) && decide (q.drop (i + 1) <+: p.drop (i + 1))) := by
  rw [List.drop_eq_getElem_cons h1, List.drop_eq_getElem_cons h2, Bool.eq_iff_iff]
  simp only [List.cons_prefix_cons, decide_eq_true_eq, Bool.and_eq_true]
  constructor
  · rintro ⟨h, h'⟩; exact ⟨h.symm, h'⟩
  · rintro ⟨h, h'⟩; exact ⟨h.symm, h'⟩
theorem equal_ev (a b : List ByteArray) (ha : a.length ≤ 1000000000000) : Ev (fun k => slices_Equal_string_string.f k a b) (decide (a = b)) := by
  by_cases hl : a.length = b.length
  · have loop : ∀ (m i : Nat), i + m = a.length → Ev (fun k => slices_Equal_string_string.l0 k a b (a.length : Int) (i : Int)) (decide (a.drop i = b.drop i)) := by
      intro m
      induction m with
      | zero =>
        intro i hi
        rw [List.drop_eq_nil_of_le (by omega), List.drop_eq_nil_of_le (by omega), decide_eq_true rfl]
        refine Ev.step (f := fun _ => some true) (fun k => ?_) (Ev.now _)
        simp only [slices_Equal_string_string.l0]
        rw [if_neg (by omega)]
      | succ m ih =>
        intro i hi
        have h1 : i < a.length := by omega
        have h2 : i < b.length := by omega
        rw [drop_dec h1 h2]
        by_cases e : a[i] = b[i]
        · rw [decide_eq_true e, Bool.true_and]
          refine Ev.step (f := fun k => slices_Equal_string_string.l0 k a b (a.length : Int) ((i + 1 : Nat) : Int)) (fun k => ?_) (ih (i + 1) (by omega))
          simp only [slices_Equal_string_string.l0]
          rw [if_pos (by omega), if_pos (by omega), if_pos (by omega), if_pos (by omega), rdOf_nat h1, rdOf_nat h2, if_pos (by rw [e]), wrap_succ (by omega)]
        · rw [decide_eq_false e, Bool.false_and]
          refine Ev.step (f := fun _ => some false) (fun k => ?_) (Ev.now _)
          simp only [slices_Equal_string_string.l0]
          rw [if_pos (by omega), if_pos (by omega), if_pos (by omega), if_pos (by omega), rdOf_nat h1, rdOf_nat h2, if_neg (fun h => e ((toList_iff _ _).1 h))]
    refine Ev.congr (fun k => ?_) (loop a.length 0 (by omega))
    unfold slices_Equal_string_string.f
    rw [if_pos (by omega)]
    rfl
  · rw [decide_eq_false (fun h => hl (by rw [h]))]
    refine Ev.congr (fun k => ?_) (Ev.now false)
    unfold slices_Equal_string_string.f
    rw [if_neg (by omega)]
theorem same13_ev (a b : List ByteArray) (ha : a.length ≤ 1000000000000) : Ev (fun k => cadencelaw13_same.f k a b) (decide (a = b)) := by
  by_cases hl : a.length = b.length
  · have loop : ∀ (m i : Nat), i + m = a.length → Ev (fun k => cadencelaw13_same.l0 k a b (i : Int)) (decide (a.drop i = b.drop i)) := by
      intro m
      induction m with
      | zero =>
        intro i hi
        rw [List.drop_eq_nil_of_le (by omega), List.drop_eq_nil_of_le (by omega), decide_eq_true rfl]
        refine Ev.step (f := fun _ => some true) (fun k => ?_) (Ev.now _)
        simp only [cadencelaw13_same.l0]
        rw [if_neg (by omega)]
      | succ m ih =>
        intro i hi
        have h1 : i < a.length := by omega
        have h2 : i < b.length := by omega
        rw [drop_dec h1 h2]
        by_cases e : a[i] = b[i]
        · rw [decide_eq_true e, Bool.true_and]
          refine Ev.step (f := fun k => cadencelaw13_same.l0 k a b ((i + 1 : Nat) : Int)) (fun k => ?_) (ih (i + 1) (by omega))
          simp only [cadencelaw13_same.l0]
          rw [if_pos (by omega), if_pos (by omega), if_pos (by omega), rdOf_nat h1, rdOf_nat h2, if_pos (by rw [e]), wrap_succ (by omega)]
        · rw [decide_eq_false e, Bool.false_and]
          refine Ev.step (f := fun _ => some false) (fun k => ?_) (Ev.now _)
          simp only [cadencelaw13_same.l0]
          rw [if_pos (by omega), if_pos (by omega), if_pos (by omega), rdOf_nat h1, rdOf_nat h2, if_neg (fun h => e ((toList_iff _ _).1 h))]
    refine Ev.congr (fun k => ?_) (loop a.length 0 (by omega))
    unfold cadencelaw13_same.f
    rw [if_pos (by omega)]
    rfl
  · rw [decide_eq_false (fun h => hl (by rw [h]))]
    refine Ev.congr (fun k => ?_) (Ev.now false)
    unfold cadencelaw13_same.f
    rw [if_neg (by omega)]
theorem pre_take {q p : List ByteArray} (hl : q.length ≤ p.length) : decide (p.take q.length = q) = decide (q <+: p) := by
  rw [Bool.eq_iff_iff, decide_eq_true_eq, decide_eq_true_eq, List.prefix_iff_eq_take]
  exact ⟨fun h => h.symm, fun h => h.symm⟩
theorem front_ev (p q : List ByteArray) (hq : q.length ≤ 1000000000000) : Ev (fun k => diff_Front.f k p q) (decide (q <+: p)) := by
  by_cases hl : q.length ≤ p.length
  · have h1 := equal_ev (p.take q.length) q (by rw [List.length_take]; omega)
    rw [pre_take hl] at h1
    refine Ev.congr (f := fun k => (slices_Equal_string_string.f k (p.take q.length) q).bind fun t => some t) (fun k => ?_) (Ev.bind h1 (Ev.now _))
    unfold diff_Front.f
    rw [if_pos (by omega), if_pos (by omega), if_pos (by omega), Int.toNat_natCast]
  · rw [decide_eq_false (fun h => hl h.length_le)]
    refine Ev.congr (fun k => ?_) (Ev.now false)
    unfold diff_Front.f
    rw [if_neg (by omega)]
theorem refFront_ev (p q : List ByteArray) (hq : q.length ≤ 1000000000000) : Ev (fun k => cadenceref13_Front.f k p q) (decide (q <+: p)) := by
  by_cases hl : q.length ≤ p.length
  · have loop : ∀ (m i : Nat), i + m = q.length → Ev (fun k => cadenceref13_Front.l0 k p q (i : Int)) (decide (q.drop i <+: p.drop i)) := by
      intro m
      induction m with
      | zero =>
        intro i hi
        rw [show q.drop i = [] from List.drop_eq_nil_of_le (by omega), decide_eq_true (List.nil_prefix)]
        refine Ev.step (f := fun _ => some true) (fun k => ?_) (Ev.now _)
        simp only [cadenceref13_Front.l0]
        rw [if_neg (by omega)]
      | succ m ih =>
        intro i hi
        have h1 : i < q.length := by omega
        have h2 : i < p.length := by omega
        rw [pre_dec h1 h2]
        by_cases e : p[i] = q[i]
        · rw [decide_eq_true e, Bool.true_and]
          refine Ev.step (f := fun k => cadenceref13_Front.l0 k p q ((i + 1 : Nat) : Int)) (fun k => ?_) (ih (i + 1) (by omega))
          simp only [cadenceref13_Front.l0]
          rw [if_pos (by omega), if_pos (by omega), if_pos (by omega), rdOf_nat h1, rdOf_nat h2, if_pos (by rw [e]), wrap_succ (by omega)]
        · rw [decide_eq_false e, Bool.false_and]
          refine Ev.step (f := fun _ => some false) (fun k => ?_) (Ev.now _)
          simp only [cadenceref13_Front.l0]
          rw [if_pos (by omega), if_pos (by omega), if_pos (by omega), rdOf_nat h1, rdOf_nat h2, if_neg (fun h => e ((toList_iff _ _).1 h))]
    refine Ev.congr (fun k => ?_) (loop q.length 0 (by omega))
    unfold cadenceref13_Front.f
    rw [if_neg (by omega)]
    rfl
  · rw [decide_eq_false (fun h => hl h.length_le)]
    refine Ev.congr (fun k => ?_) (Ev.now false)
    unfold cadenceref13_Front.f
    rw [if_pos (by omega)]
end Go.Proofs.Ytbhgocpenbibgaa.PX
-- written by wip/tools/hybrid.py (over the kit's print.py, with functions proved by hand beside it) for this claim
namespace Go.Proofs.Ytbhgocpenbibgaa.PX
open Go.RowKit Go.Proofs.YtbhgocpenbibgaaW.PrintWords Go.Proofs.YtbhgocpenbibgaaW.PrintLast Go.Proofs.YtbhgocpenbibgaaW.PrintMore
attribute [local go_sem] max2_int min2_int max_two min_two max_three min_three max_four min_four   -- for this text's walks alone
set_option linter.unusedVariables false
set_option linter.unusedSimpArgs false

/-! ### cadencelaw13_known: function 8 -/
def cadencelaw13_known.f (k : Nat)  : Option (Bool) := (diff_Paths.f k ([] : List (S45)) (([(⟨(⟨#[118]⟩ : ByteArray), ([] : List (S45))⟩ : S45)] : List (S45)))).bind fun t222 => (if (t222.length : Int) = 1 then (if 0 < (t222.length : Int) then (if ((rd_L1 t222 0).length : Int) = 1 then (if 0 < ((rd_L1 t222 0).length : Int) then (some ((rdOf ByteArray.empty (rd_L1 t222 0) 0).toList == ([118] : List UInt8))) else (none)) else (some false)) else (none)) else (some false))
theorem cadencelaw13_known.mono : ∀ k, LeO (cadencelaw13_known.f k ) (cadencelaw13_known.f (k + 1) ) := by
  intro  k
  unfold cadencelaw13_known.f
  repeat' first
      | (with_reducible exact diff_Paths.mono _ _ _)
      | (with_reducible exact LeO.refl _)
      | (with_reducible exact LeO.none _)
      | (with_reducible refine LeO.ite ?_ ?_)
      | (with_reducible refine LeO.bind ?_ (fun _ => ?_))
      | exact diff_Paths.mono _ _ _
      | exact LeO.none _
      | refine LeO.ite ?_ ?_
      | refine LeO.bind ?_ (fun _ => ?_)
set_option maxHeartbeats 8000000 in
set_option maxRecDepth 100000 in
theorem cadencelaw13_known.calls (k : Nat)  (r : Bool) (w : World) (h : cadencelaw13_known.f k  = some r) :
    Calls Try.prog 8 #[] w fun e w' => e = .returned (.bool r) ∧ Below w.heap.size w w' := by
  have hu45 := Try.underlying45
  have HB := Aside0.mk (Below.refl w.heap.size w)
  have H : ((diff_Paths.f k ([] : List (S45)) (([(⟨(⟨#[118]⟩ : ByteArray), ([] : List (S45))⟩ : S45)] : List (S45)))).bind fun t222 => (if (t222.length : Int) = 1 then (if 0 < (t222.length : Int) then (if ((rd_L1 t222 0).length : Int) = 1 then (if 0 < ((rd_L1 t222 0).length : Int) then (some ((rdOf ByteArray.empty (rd_L1 t222 0) 0).toList == ([118] : List UInt8))) else (none)) else (some false)) else (none)) else (some false))) = some r := h
  clear h
  obtain ⟨y219, hy219⟩ : ∃ y_ : List (S45), y_ = (([(⟨(⟨#[118]⟩ : ByteArray), ([] : List (S45))⟩ : S45)] : List (S45))) := ⟨_, rfl⟩
  replace H : ((diff_Paths.f k ([] : List (S45)) y219).bind fun t222 => (if (t222.length : Int) = 1 then (if 0 < (t222.length : Int) then (if ((rd_L1 t222 0).length : Int) = 1 then (if 0 < ((rd_L1 t222 0).length : Int) then (some ((rdOf ByteArray.empty (rd_L1 t222 0) 0).toList == ([118] : List UInt8))) else (none)) else (some false)) else (none)) else (some false))) = some r := by first | (rw [hy219]; with_reducible exact H) | (have H2_ := (Option.bind_some _ _).symm.trans H; rw [hy219]; with_reducible exact H2_) | (have H2_ := (Option.bind_some _ _).symm.trans H; with_reducible exact H2_) | with_reducible exact H | (rw [hy219]; exact H) | exact H
  have Ny219 := Aside0.mk hy219
  clear hy219
  replace H := Option.bind_eq_some_iff.mp H
  obtain ⟨t222, A10, H⟩ := H
  replace H : (if (t222.length : Int) = 1 then (if 0 < (t222.length : Int) then (if ((rd_L1 t222 0).length : Int) = 1 then (if 0 < ((rd_L1 t222 0).length : Int) then (some ((rdOf ByteArray.empty (rd_L1 t222 0) 0).toList == ([118] : List UInt8))) else (none)) else (some false)) else (none)) else (some false)) = some r := H
  have A1 := Aside0.mk A10
  clear A10
  by_cases c2 : (t222.length : Int) = 1
  · rw [if_pos c2] at H
    have c2b0 : ((t222.length : Int) == 1) = true := beq_iff_eq.mpr c2
    have c2b1 : ((t222.length : Int) != 1) = false := bne_eq_false_iff_eq.mpr c2
    clear c2
    by_cases c3 : 0 < (t222.length : Int)
    · rw [if_pos c3] at H
      have c3b0 : decide (0 < (t222.length : Int)) = true := decide_eq_true c3
      have c3b1 : decide (0 < t222.length) = true := decide_eq_true (by omega)
      clear c3
      by_cases c4 : ((rd_L1 t222 0).length : Int) = 1
      · rw [if_pos c4] at H
        have c4b0 : (((rd_L1 t222 0).length : Int) == 1) = true := beq_iff_eq.mpr c4
        have c4b1 : (((rd_L1 t222 0).length : Int) != 1) = false := bne_eq_false_iff_eq.mpr c4
        clear c4
        by_cases c5 : 0 < ((rd_L1 t222 0).length : Int)
        · rw [if_pos c5] at H
          have c5b0 : decide (0 < ((rd_L1 t222 0).length : Int)) = true := decide_eq_true c5
          have c5b1 : decide (0 < (rd_L1 t222 0).length) = true := decide_eq_true (by omega)
          clear c5
          obtain rfl := Option.some.inj H
          go_enter Try.func8, Try.ntmps8
          go_wp2_with (first | ((with_reducible refine gate_dst (N := 3) rfl ?_); (try (refine gate_guard (by rfl) ?_; dsimp only)); refine Kd.N_lit k45 _ 45 ?hg (N' := 3) ?hd (xs := ([(⟨(⟨#[118]⟩ : ByteArray), ([] : List (S45))⟩ : S45)] : List (S45))) (inner := [.string (⟨#[118]⟩ : ByteArray), .slice none 0 0]) (ok := (fun _ => True)) (okp := (fun _ => True)) ?hr ?hp (fun _ hk => hk) ((show ∀ k_, w.heap.size ≤ k_ → (fun _ => True) k_ from fun k_ hk => trivial) _ (Nat.le_refl _)) (Below.refl _ _) (Nat.le_refl _) (by simp) ?_; (case hd => rfl); (case hg => rfl); (case hr => first | (go_simp; done) | (go_simp; rfl)); (case hp => exact (Reps.c2 (show Kd.FK k45 _ _ (⟨(⟨#[118]⟩ : ByteArray), ([] : List (S45))⟩ : S45) [.string (⟨#[118]⟩ : ByteArray), .slice none 0 0] from (k45_mkF _ _ (⟨(⟨#[118]⟩ : ByteArray), ([] : List (S45))⟩ : S45) (Nat.le_refl _) (Kd.F_nil _ _ _))) (Reps.none _ _))); intro v220 w6 ho7 hb hg_ hnew_; clear hg_ hnew_; (first | rw [← Ny219.out] at ho7 | (simp only [Int.reduceToNat] at ho7; rw [← Ny219.out] at ho7)); have n0_ := Aside0.mk (Kd.N_lower ho7 (below_size (by repeat (first | (with_reducible first | exact HB.out | apply bA_ | apply bN_ | apply bD_) | exact HB.out)))); have n1_ := Aside0.mk (below_step (by repeat (first | (with_reducible first | exact HB.out | apply bA_ | apply bN_ | apply bD_) | exact HB.out)) hb); clear HB; have HO221 := n0_; have HB := n1_; clear n0_ n1_; clear hb ho7; obtain ⟨Ao8, co8, eo8⟩ := Kd.N_slice HO221.out; subst eo8) | ((with_reducible refine gate_callee (f := 11) rfl ?_); refine goesL_ (some 4) rfl rfl Try.func11 (by kernel_rfl) rfl #[.slice none 0 0, .slice Ao8 y219.length co8] rfl (by (try simp only [List.map_toArray, List.map_cons, List.map_nil]); first | done | rfl | (simp only [List.length_drop, List.length_take]; rfl)) ?_; (refine (diff_Paths.calls k (fun k_ => False) _ _ ([] : List (S45)) (fun k_ => True) _ _ y219 t222 _ ?side1 ?side2 A1.out).mono ?_); (case side1 => exact Kd.V_nil _ _ _ _ _); (case side2 => exact Kd.N_V (HO221.out)); rintro e w9 ⟨v223, rfl, ho0, hb⟩; refine ⟨_, rfl, ?_⟩; have n0_ := Aside0.mk (Kd.N_elder' (by (with_reducible repeat (first | apply nA_ | apply nN_ | apply nD_)); exact HO221.out) (Kd.N_base ho0) hb); have n1_ := Aside0.mk (Kd.N_lower (Kd.N_mono (ok' := fun k_ => True) ho0 (fun k_ hk_ => trivial)) (below_size (by repeat (first | (with_reducible first | exact HB.out | apply bA_ | apply bN_ | apply bD_) | exact HB.out)))); have n2_ := Aside0.mk (below_step (by repeat (first | (with_reducible first | exact HB.out | apply bA_ | apply bN_ | apply bD_) | exact HB.out)) hb); clear HO221; clear HB; have HO221 := n0_; have HO224 := n1_; have HB := n2_; clear n0_ n1_ n2_; (try clear hb); (try clear hb2); (try clear hk); (try clear hi); (try clear ho0); obtain ⟨Ao10, co10, eo10⟩ := Kd.N_slice HO224.out; subst eo10; have p225 : 0 ≤ (0 : Int) := (by omega); have q225 : 0 < (t222.length : Int) := of_decide_eq_true (by first | (with_reducible assumption) | assumption); obtain ⟨ad225, A225_0, c225_0, e225, hx225_0, hl225_0, hi225_0⟩ := at_L1 (Kd.N_reads' HO224.out).2.2 0 p225 q225; cases e225; obtain ⟨ce225, hce225, hMe225, hcc225⟩ := Kd.N_get HO224.out [] 0 p225 (by first | exact q225 | exact of_decide_eq_true (by first | (with_reducible assumption) | assumption) | (have e_ := (Kd.N_reads' HO224.out).1; omega)); obtain ⟨ua225_0, uc225_0, rfl, ul225_0, ge225_0⟩ := Kd.FK_slice_open hMe225; have hv225_0 := hcc225 0 _ rfl; rw [Nat.add_zero, show ((Kd.slice 9 Kd.string)).sz = 1 from rfl, Nat.mul_one] at hv225_0; replace hv225_0 := Option.some.inj (hv225_0.symm.trans hx225_0); injection hv225_0 with hva_ hvn_ hvc_; rw [hva_] at ge225_0; rw [hvc_] at ul225_0; have HL225_0 := Aside0.mk (show Kd.V Kd.string 9 _ w.heap.size _ _ (rd_L1 t222 0) from Kd.V_mk ul225_0 ge225_0); clear hva_ hvn_ hvc_ ge225_0 ul225_0; clear hcc225 hce225; have qi225 : (0 < t222.length) = True := eq_true (by omega); (try rw [show ((0 : Int)).toNat = 0 from rfl] at hx225_0); (try rw [Addr.add_zero'] at hx225_0); have HR225_0 := Aside0.mk hi225_0; have HC225_0 := Aside0.mk hl225_0; clear hi225_0 hl225_0; replace p225 := eq_true p225; replace q225 := eq_true q225; have p226 : 0 ≤ (0 : Int) := (by omega); have q226 : 0 < (t222.length : Int) := of_decide_eq_true (by first | (with_reducible assumption) | assumption); obtain ⟨ad226, A226_0, c226_0, e226, hx226_0, hl226_0, hi226_0⟩ := at_L1 (Kd.N_reads' HO224.out).2.2 0 p226 q226; obtain rfl : ad225 = ad226 := (by injection e226); obtain ⟨ce226, hce226, hMe226, hcc226⟩ := Kd.N_get HO224.out [] 0 p226 (by first | exact q226 | exact of_decide_eq_true (by first | (with_reducible assumption) | assumption) | (have e_ := (Kd.N_reads' HO224.out).1; omega)); obtain ⟨ua226_0, uc226_0, rfl, ul226_0, ge226_0⟩ := Kd.FK_slice_open hMe226; have hv226_0 := hcc226 0 _ rfl; rw [Nat.add_zero, show ((Kd.slice 9 Kd.string)).sz = 1 from rfl, Nat.mul_one] at hv226_0; replace hv226_0 := Option.some.inj (hv226_0.symm.trans hx226_0); injection hv226_0 with hva_ hvn_ hvc_; rw [hva_] at ge226_0; rw [hvc_] at ul226_0; have HL226_0 := Aside0.mk (show Kd.V Kd.string 9 _ w.heap.size _ _ (rd_L1 t222 0) from Kd.V_mk ul226_0 ge226_0); clear hva_ hvn_ hvc_ ge226_0 ul226_0; clear hcc226 hce226; have qi226 : (0 < t222.length) = True := eq_true (by omega); (try rw [show ((0 : Int)).toNat = 0 from rfl] at hx226_0); (try rw [Addr.add_zero'] at hx226_0); have HR226_0 := Aside0.mk hi226_0; have HC226_0 := Aside0.mk hl226_0; clear hi226_0 hl226_0; replace p226 := eq_true p226; replace q226 := eq_true q226; have ea_ := Option.some.inj (hx225_0.symm.trans hx226_0); injection ea_ with ea_ en_ ec_; subst ea_; subst ec_; clear en_; have p227 : 0 ≤ (0 : Int) := (by omega); have q227 : 0 < ((rd_L1 t222 0).length : Int) := of_decide_eq_true (by first | (with_reducible assumption) | assumption); obtain ⟨ad227, e227, hx227_0⟩ := Kd.at_string (by repeat (first | (with_reducible exact HR226_0.out) | (with_reducible refine cA_ ?_ _) | (with_reducible refine cN_ ?_ _) | (with_reducible refine cD_ ?_) | exact HR226_0.out)) 0 p227 q227; cases e227; have qi227 : (0 < (rd_L1 t222 0).length) = True := eq_true (by omega); (try rw [show ((0 : Int)).toNat = 0 from rfl] at hx227_0); (try rw [Addr.add_zero'] at hx227_0); replace p227 := eq_true p227; replace q227 := eq_true q227))
          go_ret
          exact ⟨by first | rfl | (simp [errW_none, errW_some] <;> rfl) | (simp [*, errW_none, errW_some] <;> rfl), by repeat (first | (with_reducible first | exact HB.out | apply bA_ | apply bN_ | apply bD_) | exact HB.out)⟩
        · rw [if_neg c5] at H
          exact absurd H (by simp)
      · rw [if_neg c4] at H
        have c4b0 : (((rd_L1 t222 0).length : Int) == 1) = false := beq_eq_false_iff_ne.mpr c4
        have c4b1 : (((rd_L1 t222 0).length : Int) != 1) = true := bne_iff_ne.mpr c4
        obtain rfl := Option.some.inj H
        go_enter Try.func8, Try.ntmps8
        go_wp2_with (first | ((with_reducible refine gate_dst (N := 3) rfl ?_); (try (refine gate_guard (by rfl) ?_; dsimp only)); refine Kd.N_lit k45 _ 45 ?hg (N' := 3) ?hd (xs := ([(⟨(⟨#[118]⟩ : ByteArray), ([] : List (S45))⟩ : S45)] : List (S45))) (inner := [.string (⟨#[118]⟩ : ByteArray), .slice none 0 0]) (ok := (fun _ => True)) (okp := (fun _ => True)) ?hr ?hp (fun _ hk => hk) ((show ∀ k_, w.heap.size ≤ k_ → (fun _ => True) k_ from fun k_ hk => trivial) _ (Nat.le_refl _)) (Below.refl _ _) (Nat.le_refl _) (by simp) ?_; (case hd => rfl); (case hg => rfl); (case hr => first | (go_simp; done) | (go_simp; rfl)); (case hp => exact (Reps.c2 (show Kd.FK k45 _ _ (⟨(⟨#[118]⟩ : ByteArray), ([] : List (S45))⟩ : S45) [.string (⟨#[118]⟩ : ByteArray), .slice none 0 0] from (k45_mkF _ _ (⟨(⟨#[118]⟩ : ByteArray), ([] : List (S45))⟩ : S45) (Nat.le_refl _) (Kd.F_nil _ _ _))) (Reps.none _ _))); intro v220 w11 ho12 hb hg_ hnew_; clear hg_ hnew_; (first | rw [← Ny219.out] at ho12 | (simp only [Int.reduceToNat] at ho12; rw [← Ny219.out] at ho12)); have n0_ := Aside0.mk (Kd.N_lower ho12 (below_size (by repeat (first | (with_reducible first | exact HB.out | apply bA_ | apply bN_ | apply bD_) | exact HB.out)))); have n1_ := Aside0.mk (below_step (by repeat (first | (with_reducible first | exact HB.out | apply bA_ | apply bN_ | apply bD_) | exact HB.out)) hb); clear HB; have HO221 := n0_; have HB := n1_; clear n0_ n1_; clear hb ho12; obtain ⟨Ao13, co13, eo13⟩ := Kd.N_slice HO221.out; subst eo13) | ((with_reducible refine gate_callee (f := 11) rfl ?_); refine goesL_ (some 4) rfl rfl Try.func11 (by kernel_rfl) rfl #[.slice none 0 0, .slice Ao13 y219.length co13] rfl (by (try simp only [List.map_toArray, List.map_cons, List.map_nil]); first | done | rfl | (simp only [List.length_drop, List.length_take]; rfl)) ?_; (refine (diff_Paths.calls k (fun k_ => False) _ _ ([] : List (S45)) (fun k_ => True) _ _ y219 t222 _ ?side1 ?side2 A1.out).mono ?_); (case side1 => exact Kd.V_nil _ _ _ _ _); (case side2 => exact Kd.N_V (HO221.out)); rintro e w14 ⟨v223, rfl, ho0, hb⟩; refine ⟨_, rfl, ?_⟩; have n0_ := Aside0.mk (Kd.N_elder' (by (with_reducible repeat (first | apply nA_ | apply nN_ | apply nD_)); exact HO221.out) (Kd.N_base ho0) hb); have n1_ := Aside0.mk (Kd.N_lower (Kd.N_mono (ok' := fun k_ => True) ho0 (fun k_ hk_ => trivial)) (below_size (by repeat (first | (with_reducible first | exact HB.out | apply bA_ | apply bN_ | apply bD_) | exact HB.out)))); have n2_ := Aside0.mk (below_step (by repeat (first | (with_reducible first | exact HB.out | apply bA_ | apply bN_ | apply bD_) | exact HB.out)) hb); clear HO221; clear HB; have HO221 := n0_; have HO224 := n1_; have HB := n2_; clear n0_ n1_ n2_; (try clear hb); (try clear hb2); (try clear hk); (try clear hi); (try clear ho0); obtain ⟨Ao15, co15, eo15⟩ := Kd.N_slice HO224.out; subst eo15; have p225 : 0 ≤ (0 : Int) := (by omega); have q225 : 0 < (t222.length : Int) := of_decide_eq_true (by first | (with_reducible assumption) | assumption); obtain ⟨ad225, A225_0, c225_0, e225, hx225_0, hl225_0, hi225_0⟩ := at_L1 (Kd.N_reads' HO224.out).2.2 0 p225 q225; cases e225; obtain ⟨ce225, hce225, hMe225, hcc225⟩ := Kd.N_get HO224.out [] 0 p225 (by first | exact q225 | exact of_decide_eq_true (by first | (with_reducible assumption) | assumption) | (have e_ := (Kd.N_reads' HO224.out).1; omega)); obtain ⟨ua225_0, uc225_0, rfl, ul225_0, ge225_0⟩ := Kd.FK_slice_open hMe225; have hv225_0 := hcc225 0 _ rfl; rw [Nat.add_zero, show ((Kd.slice 9 Kd.string)).sz = 1 from rfl, Nat.mul_one] at hv225_0; replace hv225_0 := Option.some.inj (hv225_0.symm.trans hx225_0); injection hv225_0 with hva_ hvn_ hvc_; rw [hva_] at ge225_0; rw [hvc_] at ul225_0; have HL225_0 := Aside0.mk (show Kd.V Kd.string 9 _ w.heap.size _ _ (rd_L1 t222 0) from Kd.V_mk ul225_0 ge225_0); clear hva_ hvn_ hvc_ ge225_0 ul225_0; clear hcc225 hce225; have qi225 : (0 < t222.length) = True := eq_true (by omega); (try rw [show ((0 : Int)).toNat = 0 from rfl] at hx225_0); (try rw [Addr.add_zero'] at hx225_0); have HR225_0 := Aside0.mk hi225_0; have HC225_0 := Aside0.mk hl225_0; clear hi225_0 hl225_0; replace p225 := eq_true p225; replace q225 := eq_true q225))
        go_ret
        exact ⟨by first | rfl | (simp [errW_none, errW_some] <;> rfl) | (simp [*, errW_none, errW_some] <;> rfl), by repeat (first | (with_reducible first | exact HB.out | apply bA_ | apply bN_ | apply bD_) | exact HB.out)⟩
    · rw [if_neg c3] at H
      exact absurd H (by simp)
  · rw [if_neg c2] at H
    have c2b0 : ((t222.length : Int) == 1) = false := beq_eq_false_iff_ne.mpr c2
    have c2b1 : ((t222.length : Int) != 1) = true := bne_iff_ne.mpr c2
    obtain rfl := Option.some.inj H
    go_enter Try.func8, Try.ntmps8
    go_wp2_with (first | ((with_reducible refine gate_dst (N := 3) rfl ?_); (try (refine gate_guard (by rfl) ?_; dsimp only)); refine Kd.N_lit k45 _ 45 ?hg (N' := 3) ?hd (xs := ([(⟨(⟨#[118]⟩ : ByteArray), ([] : List (S45))⟩ : S45)] : List (S45))) (inner := [.string (⟨#[118]⟩ : ByteArray), .slice none 0 0]) (ok := (fun _ => True)) (okp := (fun _ => True)) ?hr ?hp (fun _ hk => hk) ((show ∀ k_, w.heap.size ≤ k_ → (fun _ => True) k_ from fun k_ hk => trivial) _ (Nat.le_refl _)) (Below.refl _ _) (Nat.le_refl _) (by simp) ?_; (case hd => rfl); (case hg => rfl); (case hr => first | (go_simp; done) | (go_simp; rfl)); (case hp => exact (Reps.c2 (show Kd.FK k45 _ _ (⟨(⟨#[118]⟩ : ByteArray), ([] : List (S45))⟩ : S45) [.string (⟨#[118]⟩ : ByteArray), .slice none 0 0] from (k45_mkF _ _ (⟨(⟨#[118]⟩ : ByteArray), ([] : List (S45))⟩ : S45) (Nat.le_refl _) (Kd.F_nil _ _ _))) (Reps.none _ _))); intro v220 w16 ho17 hb hg_ hnew_; clear hg_ hnew_; (first | rw [← Ny219.out] at ho17 | (simp only [Int.reduceToNat] at ho17; rw [← Ny219.out] at ho17)); have n0_ := Aside0.mk (Kd.N_lower ho17 (below_size (by repeat (first | (with_reducible first | exact HB.out | apply bA_ | apply bN_ | apply bD_) | exact HB.out)))); have n1_ := Aside0.mk (below_step (by repeat (first | (with_reducible first | exact HB.out | apply bA_ | apply bN_ | apply bD_) | exact HB.out)) hb); clear HB; have HO221 := n0_; have HB := n1_; clear n0_ n1_; clear hb ho17; obtain ⟨Ao18, co18, eo18⟩ := Kd.N_slice HO221.out; subst eo18) | ((with_reducible refine gate_callee (f := 11) rfl ?_); refine goesL_ (some 4) rfl rfl Try.func11 (by kernel_rfl) rfl #[.slice none 0 0, .slice Ao18 y219.length co18] rfl (by (try simp only [List.map_toArray, List.map_cons, List.map_nil]); first | done | rfl | (simp only [List.length_drop, List.length_take]; rfl)) ?_; (refine (diff_Paths.calls k (fun k_ => False) _ _ ([] : List (S45)) (fun k_ => True) _ _ y219 t222 _ ?side1 ?side2 A1.out).mono ?_); (case side1 => exact Kd.V_nil _ _ _ _ _); (case side2 => exact Kd.N_V (HO221.out)); rintro e w19 ⟨v223, rfl, ho0, hb⟩; refine ⟨_, rfl, ?_⟩; have n0_ := Aside0.mk (Kd.N_elder' (by (with_reducible repeat (first | apply nA_ | apply nN_ | apply nD_)); exact HO221.out) (Kd.N_base ho0) hb); have n1_ := Aside0.mk (Kd.N_lower (Kd.N_mono (ok' := fun k_ => True) ho0 (fun k_ hk_ => trivial)) (below_size (by repeat (first | (with_reducible first | exact HB.out | apply bA_ | apply bN_ | apply bD_) | exact HB.out)))); have n2_ := Aside0.mk (below_step (by repeat (first | (with_reducible first | exact HB.out | apply bA_ | apply bN_ | apply bD_) | exact HB.out)) hb); clear HO221; clear HB; have HO221 := n0_; have HO224 := n1_; have HB := n2_; clear n0_ n1_ n2_; (try clear hb); (try clear hb2); (try clear hk); (try clear hi); (try clear ho0); obtain ⟨Ao20, co20, eo20⟩ := Kd.N_slice HO224.out; subst eo20))
    go_ret
    exact ⟨by first | rfl | (simp [errW_none, errW_some] <;> rfl) | (simp [*, errW_none, errW_some] <;> rfl), by repeat (first | (with_reducible first | exact HB.out | apply bA_ | apply bN_ | apply bD_) | exact HB.out)⟩

end Go.Proofs.Ytbhgocpenbibgaa.PX
/- The chapter's example: the one path at which nothing and one edge differ. -/
set_option linter.unusedVariables false
namespace Go.Proofs.Ytbhgocpenbibgaa.PX
open Go.RowKit Go.Proofs.YtbhgocpenbibgaaW.PrintWords Go.Proofs.YtbhgocpenbibgaaW.PrintLast Go.Proofs.YtbhgocpenbibgaaW.PrintMore Go.Proofs.Ytbhgocpenbibgaa
theorem known_ev : Ev (fun k => cadencelaw13_known.f k) true := by
  have hb : Ok 1 1 [(⟨(⟨#[118]⟩ : ByteArray), []⟩ : Edge)] := ⟨by simp, List.pairwise_singleton _ _, fun x hx => by obtain rfl := List.mem_singleton.1 hx; rfl⟩
  have h := paths_ev (W := 1) (by omega) (by omega) (d := 1) (by omega) (by omega) (Ok.nil 1 1) hb
  have hn : namesOf [[], [(⟨(⟨#[118]⟩ : ByteArray), []⟩ : Edge)]] = [(⟨#[118]⟩ : ByteArray)] := by
    have : ofL ([[], [(⟨(⟨#[118]⟩ : ByteArray), []⟩ : Edge)]].flatMap nms) = [[118]] := by
      refine (ofL_ext (List.pairwise_singleton _ _) fun s => ?_).symm
      simp [nms, tl]
    unfold namesOf
    rw [this]
    rfl
  have hp : pathsM 1 [] [(⟨(⟨#[118]⟩ : ByteArray), []⟩ : Edge)] = [[(⟨#[118]⟩ : ByteArray)]] := by
    rw [pathsM, hn]
    simp [stepP, kid]
  rw [hp] at h
  obtain ⟨K, hK⟩ := h
  refine ⟨K, fun k hk => ?_⟩
  replace hK : diff_Paths.f k [] [(⟨(⟨#[118]⟩ : ByteArray), []⟩ : Edge)] = some [[(⟨#[118]⟩ : ByteArray)]] := hK k hk
  show cadencelaw13_known.f k = some true
  unfold cadencelaw13_known.f
  rw [hK, Option.bind_some, if_pos (by simp), if_pos (by simp)]
  have hr : rd_L1 [[(⟨#[118]⟩ : ByteArray)]] 0 = [(⟨#[118]⟩ : ByteArray)] := rfl
  rw [hr, if_pos (by simp), if_pos (by simp)]
  have h2 : rdOf ByteArray.empty [(⟨#[118]⟩ : ByteArray)] 0 = (⟨#[118]⟩ : ByteArray) := rfl
  rw [h2, toList_tl]
  rfl
end Go.Proofs.Ytbhgocpenbibgaa.PX
/- Raw trees, as they come in: what their cells hold, and that they are no larger than any machine. -/
set_option linter.unusedVariables false
set_option linter.unusedSimpArgs false
namespace Go.Proofs.Ytbhgocpenbibgaa.PX
open Go.RowKit Go.Proofs.YtbhgocpenbibgaaW.PrintWords Go.Proofs.YtbhgocpenbibgaaW.PrintLast Go.Proofs.YtbhgocpenbibgaaW.PrintMore Go.ChangeShapes Go.WideShapes Go.ChangeAt Go.Deep
abbrev Raw := S49
/-- No row in it is longer than the reach of memory. -/
inductive RawOk : List Raw → Prop
  | mk (l : List Raw) (hl : l.length ≤ 3518437208832) (hk : ∀ x ∈ l, RawOk x.f1) : RawOk l
instance : Inhabited Raw := ⟨z49⟩
section
variable {H : Type} {enc : TypeId × Value → H} {w : World}
theorem cells_at {a : Addr} {n : Nat} {cs : List Value} (h : w.cells? 0 a n = some cs) : cs.length = n ∧ ∀ i u, cs[i]? = some u → w.cell? (a.add i) = some u := by
  obtain ⟨_, h1, h2⟩ := World.cells?_some h
  exact ⟨h1, fun i u hu => (h2 i (by rw [← h1]; exact (List.getElem?_eq_some_iff.1 hu).1)).trans hu⟩
theorem add_add_ (a : Addr) (i j : Nat) : (a.add i).add j = a.add (i + j) := by
  unfold Addr.add
  by_cases hi : i = 0 <;> by_cases hj : j = 0 <;> simp [hi, hj, Nat.add_assoc]
set_option maxRecDepth 100000 in
theorem open_raws (N : Nat) : ∀ (fuel : Nat) (cs : List Value) (x : DataW H × List MemPlace), SizeOf.sizeOf x.1 < N → DataW.trod enc Try.prog w 0 (fun _ => true) true fuel 22 cs = some x →
    (∀ n ∈ x.1.weights Try.prog 22, n ≤ reachBytes) →
    ∃ (A : Option Addr) (len cap : Nat) (l : List Raw), cs = [.slice A len cap] ∧ l.length = len ∧ len ≤ cap ∧ Kd.C k49 w A len l ∧ RawOk l := by
  induction N with
  | zero => intro _ _ _ h; exact absurd h (Nat.not_lt_zero _)
  | succ N ih =>
    intro fuel cs x hN h hw
    have cR : Try.prog.cellsOf 49 = 2 := by kernel_rfl
    have bR : Try.prog.bytesOf 49 = 40 := by kernel_rfl
    have cS : Try.prog.cellsOf 9 = 1 := by kernel_rfl
    have cL : Try.prog.cellsOf 22 = 1 := by kernel_rfl
    rcases open_slice Try.underlying22 h with ⟨rfl, rfl⟩ | ⟨a, len, cap, m, n, D, Pl, rfl, _, hl, hm, hmm, hx, hel⟩
    · exact ⟨none, 0, 0, [], rfl, rfl, Nat.le_refl _, Kd.C_nil _ _, .mk _ (by simp) (by simp)⟩
    · simp only [if_true] at hmm
      subst hmm
      rw [cR] at hel
      have hd : x.1 = .slice ((List.range len).map D) ((List.range (m - len)).map fun j => D (len + j)) := by rw [hx]
      rw [hd] at hw hN
      have hw0 : len * 40 ≤ reachBytes := by
        have := hw ((((List.range len).map D).length + ((List.range (m - len)).map fun j => D (len + j)).length) * 40) (by rw [DataW.weights, Try.underlying22]; simp only [bR]; exact List.mem_cons_self)
        simp only [List.length_map, List.length_range] at this
        omega
      have hwi : ∀ i, i < len → ∀ q ∈ (D i).weights Try.prog 49, q ≤ reachBytes := by
        intro i hi q hq
        refine hw q ?_
        rw [DataW.weights, Try.underlying22]
        refine List.mem_cons_of_mem _ (List.mem_append_left _ ?_)
        have : ∀ (L : List (DataW H)), D i ∈ L → q ∈ DataW.weightsAll Try.prog 49 L := by
          intro L
          induction L with
          | nil => simp
          | cons d L ih2 =>
            intro hm
            rw [DataW.weightsAll]
            rcases List.mem_cons.1 hm with e | hm
            · exact List.mem_append_left _ (e ▸ hq)
            · exact List.mem_append_right _ (ih2 hm)
        exact this _ (List.mem_map.2 ⟨i, List.mem_range.2 hi, rfl⟩)
      have hsz : ∀ i, i < len → SizeOf.sizeOf (D i) < N := by
        intro i hi
        have h1 : SizeOf.sizeOf (D i) < SizeOf.sizeOf ((List.range len).map D) := List.sizeOf_lt_of_mem (List.mem_map.2 ⟨i, List.mem_range.2 hi, rfl⟩)
        have h2 : SizeOf.sizeOf (DataW.slice ((List.range len).map D) ((List.range (m - len)).map fun j => D (len + j))) = 1 + SizeOf.sizeOf ((List.range len).map D) + SizeOf.sizeOf ((List.range (m - len)).map fun j => D (len + j)) := by simp
        omega
      obtain ⟨f, hf⟩ := choose_lt (α := Raw) (n := len) (p := fun i q => (∃ c, c.length = 2 ∧ k49.K w q c ∧ ∀ j u, c[j]? = some u → w.cell? (a.add (i * 2 + j)) = some u) ∧ RawOk q.f1) (fun i hi => by
        obtain ⟨c, hc1, hc2⟩ := hel i (by omega)
        obtain ⟨hcl, hcc⟩ := cells_at hc1
        have hD := hwi i hi
        have hS := hsz i hi
        obtain ⟨y0, y1, n2, hy, hl2, h0, h1⟩ := trod_struct2 Try.underlying49 hc2
        have hDi : D i = .agg [y0.1, y1.1] := congrArg Prod.fst hy
        rw [hDi] at hD hS
        match c, hcl with
        | [u0, u1], _ =>
          simp only [cS, cL, List.drop_zero, List.drop_succ_cons, List.take_succ_cons, List.take_zero] at h0 h1
          obtain ⟨s, e0, _, _⟩ := DataW.trod_string Try.underlying9 h0
          obtain ⟨A1, len1, cap1, l1, e1, hl1, hc1', hC1, hR1⟩ := ih n2 _ y1 (by simp at hS; omega) h1 (fun q hq => hD q (by
            rw [DataW.weights, Try.underlying49]
            simp only [List.map_cons, List.map_nil, DataW.weightsEach]
            exact List.mem_append_right _ (List.mem_append_left _ hq)))
          injection e0 with e0
          injection e1 with e1
          subst e0 e1 hl1
          refine ⟨⟨s, l1⟩, ⟨_, rfl, k49_mk w ⟨s, l1⟩ hc1' hC1, fun j u hu => ?_⟩, hR1⟩
          have := hcc j u hu
          rwa [add_add_] at this)
      refine ⟨some a, len, m, (List.range len).map f, rfl, by simp, hl, ⟨by simp, by unfold maxLen at hm; omega, fun hp => ⟨a, rfl, fun j p hj => ?_⟩⟩, .mk _ (by simp; unfold reachBytes at hw0; omega) (fun q hq => ?_)⟩
      · rw [List.getElem?_map] at hj
        obtain ⟨j', hj', rfl⟩ := Option.map_eq_some_iff.1 hj
        have hjl : j < len := by have := (List.getElem?_eq_some_iff.1 hj').1; simpa using this
        have : j' = j := by rw [List.getElem?_range hjl] at hj'; injection hj' with hj'; exact hj'.symm
        subst this
        obtain ⟨c, h1, h2, h3⟩ := (hf j' hjl).1
        exact ⟨c, h1, h2, h3⟩
      · obtain ⟨i, hi, rfl⟩ := List.mem_map.1 hq
        exact (hf i (List.mem_range.1 hi)).2
theorem open_raw {v : Value} {d : DataW H} {p : List MemPlace} {ts : List TypeId} {ds : List (DataW H)} {j : Nat} (hv : ∃ A len cap, v = .slice A len cap) (h : DataW.Trod enc Try.prog w 0 (fun _ => true) true 22 v d p)
    (hsz : (DataW.weightsEach Try.prog ts ds).all (· ≤ reachBytes) = true) (ht : ts[j]? = some 22) (hd : ds[j]? = some d) :
    ∃ (A : Option Addr) (cap : Nat) (l : List Raw), v = .slice A l.length cap ∧ l.length ≤ cap ∧ Kd.C k49 w A l.length l ∧ RawOk l := by
  obtain ⟨A, len, cap, rfl⟩ := hv
  obtain ⟨fuel, hf⟩ := h
  obtain ⟨A', len', cap', l, e, hl, hc, hC, hR⟩ := open_raws (enc := enc) (w := w) _ fuel _ (d, p) (Nat.lt_succ_self _) hf (fun n hn => by
    have := List.all_eq_true.1 hsz _ (DataW.weights_mem_each ht hd n hn)
    simpa using this)
  simp only [Value.cells, List.cons.injEq, and_true, Value.slice.injEq] at e
  obtain ⟨rfl, rfl, rfl⟩ := e
  subst hl
  exact ⟨A, cap, l, rfl, hc, hC, hR⟩
end
end Go.Proofs.Ytbhgocpenbibgaa.PX
-- written by wip/tools/hybrid.py (over the kit's print.py, with functions proved by hand beside it) for this claim
namespace Go.Proofs.Ytbhgocpenbibgaa.PX
open Go.RowKit Go.Proofs.YtbhgocpenbibgaaW.PrintWords Go.Proofs.YtbhgocpenbibgaaW.PrintLast Go.Proofs.YtbhgocpenbibgaaW.PrintMore
attribute [local go_sem] max2_int min2_int max_two min_two max_three min_three max_four min_four   -- for this text's walks alone
set_option linter.unusedVariables false
set_option linter.unusedSimpArgs false

/-! ### cadencelaw2_Count: function 23 -/
mutual
def cadencelaw2_Count.l0 : Nat → List (S49) → Int → Int → Int → Option (Int)
  | 0, _, _, _, _ => none
  | k + 1, x0, x1, x5, x6 => if x6 < (x0.length : Int) then (if x5 < x1 then (if 0 ≤ x6 then ((cadencelaw2_Count.f k ((rd_T49 x0 x6).f1) (wrap64 (x1 - x5))).bind fun t254 => (cadencelaw2_Count.l0 k x0 x1 (wrap64 (x5 + t254)) (wrap64 (x6 + 1)))) else (none)) else (some x5)) else (some x5)
def cadencelaw2_Count.f : Nat → List (S49) → Int → Option (Int)
  | 0, _, _ => none
  | k + 1, l0, a1 => cadencelaw2_Count.l0 k l0 a1 (l0.length : Int) 0
end
theorem cadencelaw2_Count.mono_l : ∀ k, (∀ y0 y1, LeO (cadencelaw2_Count.f k y0 y1) (cadencelaw2_Count.f (k + 1) y0 y1)) ∧ (∀ y0 y1 y2 y3, LeO (cadencelaw2_Count.l0 k y0 y1 y2 y3) (cadencelaw2_Count.l0 (k + 1) y0 y1 y2 y3))
  | 0 => ⟨fun _ _ r h => by simp [cadencelaw2_Count.f] at h, fun _ _ _ _ r h => by simp [cadencelaw2_Count.l0] at h⟩
  | k + 1 => by
    obtain ⟨ih0, ih1⟩ := cadencelaw2_Count.mono_l k
    refine ⟨?_, ?_⟩
    · intro y0 y1
      unfold cadencelaw2_Count.f
      repeat' first
      | (with_reducible exact ih0 _ _)
      | (with_reducible exact ih1 _ _ _ _)
      | (with_reducible exact LeO.refl _)
      | (with_reducible exact LeO.none _)
      | (with_reducible refine LeO.ite ?_ ?_)
      | (with_reducible refine LeO.bind ?_ (fun _ => ?_))
      | exact ih0 _ _
      | exact ih1 _ _ _ _
      | exact LeO.none _
      | refine LeO.ite ?_ ?_
      | refine LeO.bind ?_ (fun _ => ?_)
    · intro y0 y1 y2 y3
      unfold cadencelaw2_Count.l0
      repeat' first
      | (with_reducible exact ih0 _ _)
      | (with_reducible exact ih1 _ _ _ _)
      | (with_reducible exact LeO.refl _)
      | (with_reducible exact LeO.none _)
      | (with_reducible refine LeO.ite ?_ ?_)
      | (with_reducible refine LeO.bind ?_ (fun _ => ?_))
      | exact ih0 _ _
      | exact ih1 _ _ _ _
      | exact LeO.none _
      | refine LeO.ite ?_ ?_
      | refine LeO.bind ?_ (fun _ => ?_)
theorem cadencelaw2_Count.mono : ∀ a0 a1 k, LeO (cadencelaw2_Count.f k a0 a1) (cadencelaw2_Count.f (k + 1) a0 a1) := by
  intro a0 a1 k
  obtain ⟨ih0, ih1⟩ := cadencelaw2_Count.mono_l k
  exact ih0 a0 a1
set_option maxHeartbeats 8000000 in
set_option maxRecDepth 100000 in
theorem cadencelaw2_Count.calls (k : Nat) : ∀ (A0 : Option Addr) (c0 : Nat) (l0 : List (S49)) (a1 : Int) (r : Int) (w : World) (hr0 : Kd.C k49 w A0 l0.length l0) (hc0 : l0.length ≤ c0) (h : cadencelaw2_Count.f k l0 a1 = some r),
    Calls Try.prog 23 #[.slice A0 l0.length c0, .int .i64 a1] w fun e w' => e = .returned (.int .i64 r) ∧ Drawn0 w w' := by
  induction k using Nat.strongRecOn with
  | _ k ih =>
  intro A0 c0 l0 a1 r w hr0 hc0 h
  cases k with
  | zero => exact absurd h (by simp [cadencelaw2_Count.f])
  | succ k =>
  simp only [cadencelaw2_Count.f] at h
  have HR0 := Aside0.mk hr0
  have HC0 := Aside0.mk hc0
  clear hr0 hc0
  have H : (cadencelaw2_Count.l0 k l0 a1 (l0.length : Int) 0) = some r := h
  clear h
  have H' := Aside0.mk H
  clear H
  go_enter Try.func23, Try.ntmps23
  go_wp2
  go_loopg [5, 6] k (fun kq v5 v6 w' => ∃ (x5_1 : Int) (x6_1 : Int), v5 = .int .i64 x5_1 ∧ v6 = .int .i64 x6_1 ∧ Aside0 (cadencelaw2_Count.l0 kq l0 a1 x5_1 x6_1 = some r) ∧ Aside0 (kq ≤ k) ∧ Drawn0 w w')
  case atStart => exact ⟨((l0.length : Int)), (0), (by first | rfl | (simp; done) | (simp [*]; done)), (by first | rfl | (simp; done) | (simp [*]; done)), H', ⟨Nat.le_refl _⟩, by repeat (first | exact Drawn0.refl _ | apply Drawn0.step)⟩
  case round =>
    clear H'
    try clear c2
    try clear p2
    obtain ⟨x5_1, x6_1, rfl, rfl, HA, HK1, ⟨m1, rfl⟩⟩ := hrel
    cases gk with
    | zero => exact absurd HA.out (by simp [cadencelaw2_Count.l0])
    | succ k1 =>
      have H := HA.out
      clear HA
      simp only [cadencelaw2_Count.l0] at H
      by_cases c3 : x6_1 < (l0.length : Int)
      · rw [if_pos c3] at H
        have c3b0 : decide (x6_1 < (l0.length : Int)) = true := decide_eq_true c3
        clear c3
        by_cases c4 : x5_1 < a1
        · rw [if_pos c4] at H
          have c4b0 : decide (x5_1 < a1) = true := decide_eq_true c4
          clear c4
          by_cases c5 : 0 ≤ x6_1
          · rw [if_pos c5] at H
            have c5b0 : decide (0 ≤ x6_1) = true := decide_eq_true c5
            clear c5
            replace H := Option.bind_eq_some_iff.mp H
            obtain ⟨t254, A60, H⟩ := H
            replace H : (cadencelaw2_Count.l0 k1 l0 a1 (wrap64 (x5_1 + t254)) (wrap64 (x6_1 + 1))) = some r := H
            have A6 := Aside0.mk A60
            clear A60
            have H' := Aside0.mk H
            clear H
            have p253 : 0 ≤ (x6_1 : Int) := of_decide_eq_true (by first | (with_reducible assumption) | assumption)
            have q253 : x6_1 < (l0.length : Int) := of_decide_eq_true (by first | (with_reducible assumption) | assumption)
            obtain ⟨ad253, A253_1, c253_1, e253, hx253_0, hx253_1, hl253_1, hi253_1⟩ := at_T49 HR0.out x6_1 p253 q253
            cases e253
            have HR253_1 := Aside0.mk hi253_1
            have HC253_1 := Aside0.mk hl253_1
            clear hi253_1 hl253_1
            replace p253 := eq_true p253
            replace q253 := eq_true q253
            go_wp2_with (first | ((with_reducible refine gate_callee (f := 23) rfl ?_); refine goesL_ (some 29) rfl rfl Try.func23 (by kernel_rfl) rfl #[.slice A253_1 ((rd_T49 l0 x6_1).f1).length c253_1, .int .i64 (wrap64 (a1 - x5_1))] rfl (by (try simp only [List.map_toArray, List.map_cons, List.map_nil]); first | done | rfl | (simp only [List.length_drop, List.length_take]; rfl)) ?_; (with_reducible refine (ih k1 (by have := HK1.out; omega) _ _ ((rd_T49 l0 x6_1).f1) (wrap64 (a1 - x5_1)) t254 _ ?side1 ?side2 A6.out).mono ?_); (case side1 => repeat (first | exact HR253_1.out | (with_reducible refine cA_ ?_ _) | (with_reducible refine cN_ ?_ _) | (with_reducible refine cD_ ?_))); (case side2 => exact HC253_1.out); rintro e w' ⟨rfl, ⟨nd, rfl⟩⟩; refine ⟨_, rfl, ?_⟩))
            go_roundg k1
            case measure => have := HK1.out; omega
            case rel => exact ⟨(wrap64 (x5_1 + t254)), (wrap64 (x6_1 + 1)), (by first | rfl | (simp; done) | (simp [*]; done)), (by first | rfl | (simp; done) | (simp [*]; done)), H', ⟨by have := HK1.out; omega⟩, by repeat (first | exact Drawn0.refl _ | apply Drawn0.step)⟩
          · rw [if_neg c5] at H
            exact absurd H (by simp)
        · rw [if_neg c4] at H
          have c4b0 : decide (x5_1 < a1) = false := decide_eq_false c4
          clear c4
          obtain rfl := Option.some.inj H
          go_wp2
          go_ret
          exact ⟨by first | rfl | (simp; done) | (simp [*]; done), by repeat (first | exact Drawn0.refl _ | apply Drawn0.step)⟩
      · rw [if_neg c3] at H
        have c3b0 : decide (x6_1 < (l0.length : Int)) = false := decide_eq_false c3
        clear c3
        obtain rfl := Option.some.inj H
        go_wp2
        go_ret
        exact ⟨by first | rfl | (simp; done) | (simp [*]; done), by repeat (first | exact Drawn0.refl _ | apply Drawn0.step)⟩

end Go.Proofs.Ytbhgocpenbibgaa.PX
-- written by wip/tools/hybrid.py (over the kit's print.py, with functions proved by hand beside it) for this claim
namespace Go.Proofs.Ytbhgocpenbibgaa.PX
open Go.RowKit Go.Proofs.YtbhgocpenbibgaaW.PrintWords Go.Proofs.YtbhgocpenbibgaaW.PrintLast Go.Proofs.YtbhgocpenbibgaaW.PrintMore
attribute [local go_sem] max2_int min2_int max_two min_two max_three min_three max_four min_four   -- for this text's walks alone
set_option linter.unusedVariables false
set_option linter.unusedSimpArgs false

/-! ### cadencelaw2_Few: function 9 -/
def cadencelaw2_Few.f (k : Nat) (l0 : List (S49)) : Option (Bool) := (cadencelaw2_Count.f k l0 200).bind fun t255 => (some (decide (t255 < 200)))
theorem cadencelaw2_Few.mono : ∀ a0 k, LeO (cadencelaw2_Few.f k a0) (cadencelaw2_Few.f (k + 1) a0) := by
  intro a0 k
  unfold cadencelaw2_Few.f
  repeat' first
      | (with_reducible exact cadencelaw2_Count.mono _ _ _)
      | (with_reducible exact LeO.refl _)
      | (with_reducible exact LeO.none _)
      | (with_reducible refine LeO.ite ?_ ?_)
      | (with_reducible refine LeO.bind ?_ (fun _ => ?_))
      | exact cadencelaw2_Count.mono _ _ _
      | exact LeO.none _
      | refine LeO.ite ?_ ?_
      | refine LeO.bind ?_ (fun _ => ?_)
set_option maxHeartbeats 8000000 in
set_option maxRecDepth 100000 in
theorem cadencelaw2_Few.calls (k : Nat) (A0 : Option Addr) (c0 : Nat) (l0 : List (S49)) (r : Bool) (w : World) (hr0 : Kd.C k49 w A0 l0.length l0) (hc0 : l0.length ≤ c0) (h : cadencelaw2_Few.f k l0 = some r) :
    Calls Try.prog 9 #[.slice A0 l0.length c0] w fun e w' => e = .returned (.bool r) ∧ Drawn0 w w' := by
  have HR0 := Aside0.mk hr0
  have HC0 := Aside0.mk hc0
  clear hr0 hc0
  have H : ((cadencelaw2_Count.f k l0 200).bind fun t255 => (some (decide (t255 < 200)))) = some r := h
  clear h
  replace H := Option.bind_eq_some_iff.mp H
  obtain ⟨t255, A20, H⟩ := H
  replace H : (some (decide (t255 < 200))) = some r := H
  have A2 := Aside0.mk A20
  clear A20
  obtain rfl := Option.some.inj H
  go_enter Try.func9, Try.ntmps9
  go_wp2_with (first | ((with_reducible refine gate_callee (f := 23) rfl ?_); refine goesL_ (some 4) rfl rfl Try.func23 (by kernel_rfl) rfl #[.slice A0 l0.length c0, .int .i64 200] rfl (by (try simp only [List.map_toArray, List.map_cons, List.map_nil]); first | done | rfl | (simp only [List.length_drop, List.length_take]; rfl)) ?_; (with_reducible refine (cadencelaw2_Count.calls k _ _ l0 200 t255 _ ?side1 ?side2 A2.out).mono ?_); (case side1 => repeat (first | exact HR0.out | (with_reducible refine cA_ ?_ _) | (with_reducible refine cN_ ?_ _) | (with_reducible refine cD_ ?_))); (case side2 => exact HC0.out); rintro e w' ⟨rfl, ⟨nd, rfl⟩⟩; refine ⟨_, rfl, ?_⟩))
  go_ret
  exact ⟨by first | rfl | (simp; done) | (simp [*]; done), by repeat (first | exact Drawn0.refl _ | apply Drawn0.step)⟩

end Go.Proofs.Ytbhgocpenbibgaa.PX
/- Raw trees counted; numbers from 0 to n - 1: what the printed functions come to. -/
set_option linter.unusedVariables false
namespace Go.Proofs.Ytbhgocpenbibgaa.PX
open Go.RowKit Go.Proofs.YtbhgocpenbibgaaW.PrintWords Go.Proofs.YtbhgocpenbibgaaW.PrintLast Go.Proofs.YtbhgocpenbibgaaW.PrintMore Go.Proofs.Ytbhgocpenbibgaa
theorem rdRaw_nat {xs : List Raw} {i : Nat} (h : i < xs.length) : rd_T49 xs (i : Int) = xs[i] := by
  simp [rd_T49, List.getD_eq_getElem?_getD, h]
theorem count_ev {l : List Raw} (h : RawOk l) : ∀ m : Int, 0 ≤ m → m ≤ 200 → ∃ c, (l.length : Int) ≤ c ∧ c ≤ m + 3518437208832 ∧ Ev (fun k => cadencelaw2_Count.f k l m) c := by
  induction h with
  | mk l hl hk ih =>
    intro m h0 h1
    have loop : ∀ (d i : Nat) (n : Int), i + d = l.length → (l.length : Int) ≤ n → n ≤ m + 3518437208832 → ∃ c, (l.length : Int) ≤ c ∧ c ≤ m + 3518437208832 ∧ Ev (fun k => cadencelaw2_Count.l0 k l m n (i : Int)) c := by
      intro d
      induction d with
      | zero =>
        intro i n hi hn0 hn1
        have e : ∀ k, cadencelaw2_Count.l0 (k + 1) l m n (i : Int) = some n := fun k => by
          simp only [cadencelaw2_Count.l0]
          rw [if_neg (by omega)]
        exact ⟨n, hn0, hn1, Ev.step e (Ev.now _)⟩
      | succ d ihd =>
        intro i n hi hn0 hn1
        have hil : i < l.length := by omega
        by_cases hn : n < m
        · obtain ⟨c1, a1, a2, a3⟩ := ih l[i] (List.getElem_mem hil) (m - n) (by omega) (by omega)
          obtain ⟨c2, b1, b2, b3⟩ := ihd (i + 1) (n + c1) (by omega) (by omega) (by omega)
          have e : ∀ k, cadencelaw2_Count.l0 (k + 1) l m n (i : Int) = (cadencelaw2_Count.f k l[i].f1 (m - n)).bind fun t => cadencelaw2_Count.l0 k l m (wrap64 (n + t)) ((i + 1 : Nat) : Int) := fun k => by
            simp only [cadencelaw2_Count.l0]
            rw [if_pos (by omega), if_pos hn, if_pos (by omega), rdRaw_nat hil, wrap_id (by omega) (by omega), wrap_succ (by omega)]
          refine ⟨c2, b1, b2, Ev.step e (Ev.bind a3 ?_)⟩
          rw [wrap_id (by omega) (by omega)]
          exact b3
        · have e : ∀ k, cadencelaw2_Count.l0 (k + 1) l m n (i : Int) = some n := fun k => by
            simp only [cadencelaw2_Count.l0]
            rw [if_pos (by omega), if_neg hn]
          exact ⟨n, hn0, hn1, Ev.step e (Ev.now _)⟩
    obtain ⟨c, c1, c2, c3⟩ := loop l.length 0 l.length (by omega) (by omega) (by omega)
    exact ⟨c, c1, c2, Ev.step (fun k => by simp only [cadencelaw2_Count.f]; rfl) c3⟩
theorem few_ev {l : List Raw} (h : RawOk l) : ∃ b, (b = true → l.length < 200) ∧ Ev (fun k => cadencelaw2_Few.f k l) b := by
  obtain ⟨c, h1, _, hc⟩ := count_ev h 200 (by omega) (by omega)
  exact ⟨decide (c < 200), fun h => by have := of_decide_eq_true h; omega, Ev.bind hc (Ev.now _)⟩
theorem RawOk.kids {l : List Raw} (h : RawOk l) : ∀ x ∈ l, RawOk x.f1 := by
  cases h with
  | mk _ _ hk => exact hk
theorem RawOk.len {l : List Raw} (h : RawOk l) : l.length ≤ 3518437208832 := by
  cases h with
  | mk _ hl _ => exact hl
theorem RawOk.append {l m : List Raw} (h : RawOk l) (h' : RawOk m) (hl : l.length < 200) (hm : m.length < 200) : RawOk (l ++ m) :=
  .mk _ (by rw [List.length_append]; omega) (fun x hx => by
    rcases List.mem_append.1 hx with hx | hx
    · exact h.kids x hx
    · exact h'.kids x hx)
theorem tmod_in (a : Int) {n : Int} (h0 : 0 < n) (h1 : n ≤ 1000000) : ∃ r, 0 ≤ r ∧ r < n ∧ (if Int.tmod a n < 0 then wrap64 (Int.tmod a n + n) else Int.tmod a n) = r := by
  have h2 := Int.tmod_lt_of_pos a h0
  have h3 := Int.lt_tmod_of_pos a h0
  split
  · exact ⟨Int.tmod a n + n, by omega, by omega, wrap_id (by omega) (by omega)⟩
  · exact ⟨_, by omega, h2, rfl⟩
end Go.Proofs.Ytbhgocpenbibgaa.PX
-- written by wip/tools/hybrid.py (over the kit's print.py, with functions proved by hand beside it) for this claim
namespace Go.Proofs.Ytbhgocpenbibgaa.PX
open Go.RowKit Go.Proofs.YtbhgocpenbibgaaW.PrintWords Go.Proofs.YtbhgocpenbibgaaW.PrintLast Go.Proofs.YtbhgocpenbibgaaW.PrintMore
attribute [local go_sem] max2_int min2_int max_two min_two max_three min_three max_four min_four   -- for this text's walks alone
set_option linter.unusedVariables false
set_option linter.unusedSimpArgs false

/-! ### cadencelaw2_Make: function 18 -/
mutual
def cadencelaw2_Make.l0 : Nat → List (S49) → Int → Int → List (S45) → Int → Option ((List (S45)))
  | 0, _, _, _, _, _ => none
  | k + 1, x0, x1, x2, x7, x8 => if x8 < (x0.length : Int) then (if x8 < x1 then (cadencelaw2_Make.j1 k x0 x1 x2 x7 x8 (decide (x2 > 0))) else (cadencelaw2_Make.j1 k x0 x1 x2 x7 x8 false)) else (cadencelaw2_Make.j1 k x0 x1 x2 x7 x8 false)
def cadencelaw2_Make.j1 : Nat → List (S49) → Int → Int → List (S45) → Int → Bool → Option ((List (S45)))
  | 0, _, _, _, _, _, _ => none
  | k + 1, x0, x1, x2, x7, x8, x21 => if x21 = true then (if 0 ≤ x8 then (if x8 < (x0.length : Int) then (if 0 ≤ (mn (((rd_T49 x0 x8).f0).size : Int) 30) then (if (mn (((rd_T49 x0 x8).f0).size : Int) 30) ≤ (((rd_T49 x0 x8).f0).size : Int) then ((cadencelaw2_Make.f k ((rd_T49 x0 x8).f1) x1 (wrap64 (x2 - 1))).bind fun t482 => ((cadenceref2_With.f k x7 (((rd_T49 x0 x8).f0).extract 0 ((mn (((rd_T49 x0 x8).f0).size : Int) 30) : Int).toNat) t482).bind fun t485 => (cadencelaw2_Make.l0 k x0 x1 x2 t485 (wrap64 (x8 + 1))))) else (none)) else (none)) else (none)) else (none)) else (some x7)
def cadencelaw2_Make.f : Nat → List (S49) → Int → Int → Option ((List (S45)))
  | 0, _, _, _ => none
  | k + 1, l0, a1, a2 => cadencelaw2_Make.l0 k l0 a1 a2 ([] : List (S45)) 0
end
theorem cadencelaw2_Make.mono_l : ∀ k, (∀ y0 y1 y2, LeO (cadencelaw2_Make.f k y0 y1 y2) (cadencelaw2_Make.f (k + 1) y0 y1 y2)) ∧ (∀ y0 y1 y2 y3 y4, LeO (cadencelaw2_Make.l0 k y0 y1 y2 y3 y4) (cadencelaw2_Make.l0 (k + 1) y0 y1 y2 y3 y4)) ∧ (∀ y0 y1 y2 y3 y4 y5, LeO (cadencelaw2_Make.j1 k y0 y1 y2 y3 y4 y5) (cadencelaw2_Make.j1 (k + 1) y0 y1 y2 y3 y4 y5))
  | 0 => ⟨fun _ _ _ r h => by simp [cadencelaw2_Make.f] at h, fun _ _ _ _ _ r h => by simp [cadencelaw2_Make.l0] at h, fun _ _ _ _ _ _ r h => by simp [cadencelaw2_Make.j1] at h⟩
  | k + 1 => by
    obtain ⟨ih0, ih1, ih2⟩ := cadencelaw2_Make.mono_l k
    refine ⟨?_, ?_, ?_⟩
    · intro y0 y1 y2
      unfold cadencelaw2_Make.f
      repeat' first
      | (with_reducible exact ih0 _ _ _)
      | (with_reducible exact ih1 _ _ _ _ _)
      | (with_reducible exact ih2 _ _ _ _ _ _)
      | (with_reducible exact cadenceref2_With.mono _ _ _ _)
      | (with_reducible exact LeO.refl _)
      | (with_reducible exact LeO.none _)
      | (with_reducible refine LeO.ite ?_ ?_)
      | (with_reducible refine LeO.bind ?_ (fun _ => ?_))
      | exact ih0 _ _ _
      | exact ih1 _ _ _ _ _
      | exact ih2 _ _ _ _ _ _
      | exact cadenceref2_With.mono _ _ _ _
      | exact LeO.none _
      | refine LeO.ite ?_ ?_
      | refine LeO.bind ?_ (fun _ => ?_)
    · intro y0 y1 y2 y3 y4
      unfold cadencelaw2_Make.l0
      repeat' first
      | (with_reducible exact ih0 _ _ _)
      | (with_reducible exact ih1 _ _ _ _ _)
      | (with_reducible exact ih2 _ _ _ _ _ _)
      | (with_reducible exact cadenceref2_With.mono _ _ _ _)
      | (with_reducible exact LeO.refl _)
      | (with_reducible exact LeO.none _)
      | (with_reducible refine LeO.ite ?_ ?_)
      | (with_reducible refine LeO.bind ?_ (fun _ => ?_))
      | exact ih0 _ _ _
      | exact ih1 _ _ _ _ _
      | exact ih2 _ _ _ _ _ _
      | exact cadenceref2_With.mono _ _ _ _
      | exact LeO.none _
      | refine LeO.ite ?_ ?_
      | refine LeO.bind ?_ (fun _ => ?_)
    · intro y0 y1 y2 y3 y4 y5
      unfold cadencelaw2_Make.j1
      repeat' first
      | (with_reducible exact ih0 _ _ _)
      | (with_reducible exact ih1 _ _ _ _ _)
      | (with_reducible exact ih2 _ _ _ _ _ _)
      | (with_reducible exact cadenceref2_With.mono _ _ _ _)
      | (with_reducible exact LeO.refl _)
      | (with_reducible exact LeO.none _)
      | (with_reducible refine LeO.ite ?_ ?_)
      | (with_reducible refine LeO.bind ?_ (fun _ => ?_))
      | exact ih0 _ _ _
      | exact ih1 _ _ _ _ _
      | exact ih2 _ _ _ _ _ _
      | exact cadenceref2_With.mono _ _ _ _
      | exact LeO.none _
      | refine LeO.ite ?_ ?_
      | refine LeO.bind ?_ (fun _ => ?_)
theorem cadencelaw2_Make.mono : ∀ a0 a1 a2 k, LeO (cadencelaw2_Make.f k a0 a1 a2) (cadencelaw2_Make.f (k + 1) a0 a1 a2) := by
  intro a0 a1 a2 k
  obtain ⟨ih0, ih1, ih2⟩ := cadencelaw2_Make.mono_l k
  exact ih0 a0 a1 a2
def cadencelaw2_Make.T5 : Bool × List (List Nat × List Nat) := (true, [([], []), ([], []), ([], []), ([1, 2], [1, 2]), ([3], [3]), ([4], [4]), ([], []), ([], []), ([6, 7], [6, 7]), ([8], [8]), ([9], [9]), ([10], [10]), ([11], [11]), ([5, 12], [5, 12]), ([], []), ([], []), ([14, 15], [14, 15]), ([16], [16]), ([17], [17]), ([], []), ([], []), ([20], [20]), ([18, 19, 21], [18, 19, 21]), ([0, 13, 22, 22], [0, 13, 22]), ([23, 23, 0, 1, 2, 3, 4, 5, 6, 7, 8, 9, 10, 11, 12, 13, 14, 15, 16, 17, 18, 19, 20, 21, 22, 23], [0, 23])])
def cadencelaw2_Make.B5 : List Nat := [0, 0, 0, 6, 14, 30, 0, 0, 192, 448, 960, 1984, 4032, 8190, 0, 0, 49152, 114688, 245760, 0, 0, 1048576, 4177920, 8388607, 16777215]
theorem cadencelaw2_Make.tab5 : rtab .any (opsOf Try.f18 5) = cadencelaw2_Make.T5 := by kernel_rfl
theorem cadencelaw2_Make.bits5 : waitsOk cadencelaw2_Make.T5.2 cadencelaw2_Make.B5 = true := by kernel_rfl
set_option maxHeartbeats 8000000 in
set_option maxRecDepth 100000 in
theorem cadencelaw2_Make.calls (k : Nat) : ∀ (A0 : Option Addr) (c0 : Nat) (l0 : List (S49)) (a1 : Int) (a2 : Int) (r : List (S45)) (w : World) (hr0 : Kd.C k49 w A0 l0.length l0) (hc0 : l0.length ≤ c0) (h : cadencelaw2_Make.f k l0 a1 a2 = some r),
    Calls Try.prog 18 #[.slice A0 l0.length c0, .int .i64 a1, .int .i64 a2] w fun e w' => ∃ v0_ : Value, e = .returned (v0_) ∧ Kd.N k45 45 w' w.heap.size (fun k_ => (w.heap.size ≤ k_)) v0_ r ∧ Below w.heap.size w w' := by
  induction k using Nat.strongRecOn with
  | _ k ih =>
  intro A0 c0 l0 a1 a2 r w hr0 hc0 h
  cases k with
  | zero => exact absurd h (by simp [cadencelaw2_Make.f])
  | succ k =>
  simp only [cadencelaw2_Make.f] at h
  have HR0 := Aside0.mk hr0
  have HC0 := Aside0.mk hc0
  clear hr0 hc0
  have HB := Aside0.mk (Below.refl w.heap.size w)
  have H : (cadencelaw2_Make.l0 k l0 a1 a2 ([] : List (S45)) 0) = some r := h
  clear h
  have H' := Aside0.mk H
  clear H
  go_enter Try.func18, Try.ntmps18
  go_wp2
  go_loopg [7, 8] k (fun kq v7 v8 w' => ∃ (x7_1 : List (S45)) (x8_1 : Int), v8 = .int .i64 x8_1 ∧ Aside0 (cadencelaw2_Make.l0 kq l0 a1 a2 x7_1 x8_1 = some r) ∧ Aside0 (kq ≤ k) ∧ Aside0 (Kd.N k45 45 w' w.heap.size (fun k_ => (w.heap.size ≤ k_)) v7 x7_1) ∧ Aside0 (Below w.heap.size w w'))
  case atStart => exact ⟨(([] : List (S45))), (0), (by first | rfl | (simp; done) | (simp [*]; done)), H', ⟨Nat.le_refl _⟩, ⟨by first | exact Kd.R_nil _ _ _ _ _ | exact Kd.N_nil _ _ _ _ _ | exact Kd.V_nil _ _ _ _ _ | exact Kd.Q_nil _ _ _ _ _ | exact Kd.S_nil _ _ _ _ _⟩, ⟨by repeat (first | (with_reducible first | exact HB.out | apply bA_ | apply bN_ | apply bD_) | exact HB.out)⟩⟩
  case round =>
    clear H'
    try clear c1
    try clear p2
    obtain ⟨x7_1, x8_1, rfl, HA, HK1, HO_7, HB⟩ := hrel
    cases gk with
    | zero => exact absurd HA.out (by simp [cadencelaw2_Make.l0])
    | succ k1 =>
      have H := HA.out
      clear HA
      simp only [cadencelaw2_Make.l0] at H
      have HC4 := Aside0.mk H
      clear H
      go_upto_region 3 with (fail)
      go_cut [21] (fun v21 wc => ∃ (kq : Nat) (x21_3 : Bool), v21 = .bool x21_3 ∧ Aside0 (cadencelaw2_Make.j1 kq l0 a1 a2 x7_1 x8_1 x21_3 = some r) ∧ Aside0 (kq ≤ k1) ∧ Aside0 (Kd.N k45 45 wc w.heap.size (fun k_ => (w.heap.size ≤ k_)) u7 x7_1) ∧ Aside0 (Below w.heap.size w wc))
      case first =>
        have H := HC4.out
        clear HC4
        by_cases c5 : x8_1 < (l0.length : Int)
        · rw [if_pos c5] at H
          have c5b0 : decide (x8_1 < (l0.length : Int)) = true := decide_eq_true c5
          clear c5
          (first | rw [c5b0] | (simp only [i64_w, i32_w]; rw [c5b0]) | skip)
          by_cases c6 : x8_1 < a1
          · rw [if_pos c6] at H
            have c6b0 : decide (x8_1 < a1) = true := decide_eq_true c6
            clear c6
            have H' := Aside0.mk H
            clear H
            go_wp2
            go_meet
            case rel => exact ⟨_, (decide (a2 > 0)), (by first | rfl | (simp; done) | (simp [*]; done)), H', ⟨by have := HK1.out; first | omega | exact Nat.le_refl _⟩, ⟨by (with_reducible repeat (first | apply nA_ | apply nN_ | apply nD_)); exact HO_7.out⟩, ⟨by repeat (first | (with_reducible first | exact HB.out | apply bA_ | apply bN_ | apply bD_) | exact HB.out)⟩⟩
          · rw [if_neg c6] at H
            have c6b0 : decide (x8_1 < a1) = false := decide_eq_false c6
            clear c6
            have H' := Aside0.mk H
            clear H
            go_wp2
            go_meet
            case rel => exact ⟨_, (false), (by first | rfl | (simp; done) | (simp [*]; done)), H', ⟨by have := HK1.out; first | omega | exact Nat.le_refl _⟩, ⟨by (with_reducible repeat (first | apply nA_ | apply nN_ | apply nD_)); exact HO_7.out⟩, ⟨by repeat (first | (with_reducible first | exact HB.out | apply bA_ | apply bN_ | apply bD_) | exact HB.out)⟩⟩
        · rw [if_neg c5] at H
          have c5b0 : decide (x8_1 < (l0.length : Int)) = false := decide_eq_false c5
          clear c5
          (first | rw [c5b0] | (simp only [i64_w, i32_w]; rw [c5b0]) | skip)
          have H' := Aside0.mk H
          clear H
          go_wp2
          go_meet
          case rel => exact ⟨_, (false), (by first | rfl | (simp; done) | (simp [*]; done)), H', ⟨by have := HK1.out; first | omega | exact Nat.le_refl _⟩, ⟨by (with_reducible repeat (first | apply nA_ | apply nN_ | apply nD_)); exact HO_7.out⟩, ⟨by repeat (first | (with_reducible first | exact HB.out | apply bA_ | apply bN_ | apply bD_) | exact HB.out)⟩⟩
      case rest =>
        clear HC4
        try clear c1
        try clear p2
        try clear c5
        try clear c5b0
        try clear c6
        try clear c6b0
        try clear p2
        obtain ⟨kq, x21_3, rfl, HA, HJ3, HO_7, HB⟩ := hcut
        cases kq with
        | zero => exact absurd HA.out (by simp [cadencelaw2_Make.j1])
        | succ kj3 =>
          have H := HA.out
          clear HA
          simp only [cadencelaw2_Make.j1] at H
          by_cases c7 : x21_3 = true
          · subst c7
            have H1 : (if 0 ≤ x8_1 then (if x8_1 < (l0.length : Int) then (if 0 ≤ (mn (((rd_T49 l0 x8_1).f0).size : Int) 30) then (if (mn (((rd_T49 l0 x8_1).f0).size : Int) 30) ≤ (((rd_T49 l0 x8_1).f0).size : Int) then ((cadencelaw2_Make.f kj3 ((rd_T49 l0 x8_1).f1) a1 (wrap64 (a2 - 1))).bind fun t482 => ((cadenceref2_With.f kj3 x7_1 (((rd_T49 l0 x8_1).f0).extract 0 ((mn (((rd_T49 l0 x8_1).f0).size : Int) 30) : Int).toNat) t482).bind fun t485 => (cadencelaw2_Make.l0 kj3 l0 a1 a2 t485 (wrap64 (x8_1 + 1))))) else (none)) else (none)) else (none)) else (none)) = some r := by rw [if_pos rfl] at H; exact H
            clear H
            have H := H1
            clear H1
            by_cases c8 : 0 ≤ x8_1
            · rw [if_pos c8] at H
              have c8b0 : decide (0 ≤ x8_1) = true := decide_eq_true c8
              clear c8
              by_cases c9 : x8_1 < (l0.length : Int)
              · rw [if_pos c9] at H
                have c9b0 : decide (x8_1 < (l0.length : Int)) = true := decide_eq_true c9
                clear c9
                obtain ⟨ji10, hji10⟩ : ∃ j_ : Int, (mn (((rd_T49 l0 x8_1).f0).size : Int) 30) = j_ := ⟨_, rfl⟩
                replace H : (if 0 ≤ (ji10) then (if (ji10) ≤ (((rd_T49 l0 x8_1).f0).size : Int) then ((cadencelaw2_Make.f kj3 ((rd_T49 l0 x8_1).f1) a1 (wrap64 (a2 - 1))).bind fun t482 => ((cadenceref2_With.f kj3 x7_1 (((rd_T49 l0 x8_1).f0).extract 0 ((ji10) : Int).toNat) t482).bind fun t485 => (cadencelaw2_Make.l0 kj3 l0 a1 a2 t485 (wrap64 (x8_1 + 1))))) else (none)) else (none)) = some r := by first | (rw [hji10] at H; exact H) | (simp only [hji10] at H ⊢; exact H)
                have hji10_ : (if 30 < (((rd_T49 l0 x8_1).f0).size : Int) then 30 else (((rd_T49 l0 x8_1).f0).size : Int)) = ji10 := hji10
                by_cases c11 : 0 ≤ (ji10)
                · rw [if_pos c11] at H
                  have c11b0 := eq_true c11
                  have c11b1 : decide (0 ≤ (ji10)) = true := decide_eq_true c11
                  clear c11
                  by_cases c12 : (ji10) ≤ (((rd_T49 l0 x8_1).f0).size : Int)
                  · rw [if_pos c12] at H
                    have c12b0 := eq_true c12
                    have c12b1 : decide ((ji10) ≤ (((rd_T49 l0 x8_1).f0).size : Int)) = true := decide_eq_true c12
                    clear c12
                    replace H := Option.bind_eq_some_iff.mp H
                    obtain ⟨t482, A130, H⟩ := H
                    replace H : ((cadenceref2_With.f kj3 x7_1 (((rd_T49 l0 x8_1).f0).extract 0 ((ji10) : Int).toNat) t482).bind fun t485 => (cadencelaw2_Make.l0 kj3 l0 a1 a2 t485 (wrap64 (x8_1 + 1)))) = some r := H
                    have A13 := Aside0.mk A130
                    clear A130
                    replace H := Option.bind_eq_some_iff.mp H
                    obtain ⟨t485, A140, H⟩ := H
                    replace H : (cadencelaw2_Make.l0 kj3 l0 a1 a2 t485 (wrap64 (x8_1 + 1))) = some r := H
                    have A14 := Aside0.mk A140
                    clear A140
                    have H' := Aside0.mk H
                    clear H
                    try go_wp2
                    have n0_ := Aside0.mk (nD_ HO_7.out)
                    have n1_ := Aside0.mk (bD_ HB.out)
                    clear HO_7
                    clear HB
                    have HO_7 := n0_
                    have HB := n1_
                    clear n0_ n1_
                    have p479 : 0 ≤ (x8_1 : Int) := of_decide_eq_true (by first | (with_reducible assumption) | assumption)
                    have q479 : x8_1 < (l0.length : Int) := of_decide_eq_true (by first | (with_reducible assumption) | assumption)
                    obtain ⟨ad479, A479_1, c479_1, e479, hx479_0, hx479_1, hl479_1, hi479_1⟩ := at_T49 HR0.out x8_1 p479 q479
                    have hw479_1 := hx479_1
                    have hw479_0 := hx479_0
                    cases e479
                    replace hx479_0 := (HB.out.cell (World.block_lt_of_cell? w _ hx479_0)).trans hx479_0
                    replace hx479_1 := (HB.out.cell (World.block_lt_of_cell? w _ hx479_1)).trans hx479_1
                    have HR479_1 := Aside0.mk hi479_1
                    have HC479_1 := Aside0.mk hl479_1
                    clear hi479_1 hl479_1
                    replace p479 := eq_true p479
                    replace q479 := eq_true q479
                    have p480 : 0 ≤ (x8_1 : Int) := of_decide_eq_true (by first | (with_reducible assumption) | assumption)
                    have q480 : x8_1 < (l0.length : Int) := of_decide_eq_true (by first | (with_reducible assumption) | assumption)
                    obtain ⟨ad480, A480_1, c480_1, e480, hx480_0, hx480_1, hl480_1, hi480_1⟩ := at_T49 HR0.out x8_1 p480 q480
                    have hw480_1 := hx480_1
                    have hw480_0 := hx480_0
                    obtain rfl : ad479 = ad480 := (by injection e480)
                    replace hx480_0 := (HB.out.cell (World.block_lt_of_cell? w _ hx480_0)).trans hx480_0
                    replace hx480_1 := (HB.out.cell (World.block_lt_of_cell? w _ hx480_1)).trans hx480_1
                    have HR480_1 := Aside0.mk hi480_1
                    have HC480_1 := Aside0.mk hl480_1
                    clear hi480_1 hl480_1
                    replace p480 := eq_true p480
                    replace q480 := eq_true q480
                    have ea_ := Option.some.inj (hx479_1.symm.trans hx480_1)
                    injection ea_ with ea_ en_ ec_
                    subst ea_
                    subst ec_
                    clear en_
                    have p481 : 0 ≤ (x8_1 : Int) := of_decide_eq_true (by first | (with_reducible assumption) | assumption)
                    have q481 : x8_1 < (l0.length : Int) := of_decide_eq_true (by first | (with_reducible assumption) | assumption)
                    obtain ⟨ad481, A481_1, c481_1, e481, hx481_0, hx481_1, hl481_1, hi481_1⟩ := at_T49 HR0.out x8_1 p481 q481
                    have hw481_1 := hx481_1
                    have hw481_0 := hx481_0
                    obtain rfl : ad479 = ad481 := (by injection e481)
                    replace hx481_0 := (HB.out.cell (World.block_lt_of_cell? w _ hx481_0)).trans hx481_0
                    replace hx481_1 := (HB.out.cell (World.block_lt_of_cell? w _ hx481_1)).trans hx481_1
                    have HR481_1 := Aside0.mk hi481_1
                    have HC481_1 := Aside0.mk hl481_1
                    clear hi481_1 hl481_1
                    replace p481 := eq_true p481
                    replace q481 := eq_true q481
                    have ea_ := Option.some.inj (hx479_1.symm.trans hx481_1)
                    injection ea_ with ea_ en_ ec_
                    subst ea_
                    subst ec_
                    clear en_
                    refine start_ (n := 25) (S := fun w' => w'.cell? (ad479.add ((x8_1).toNat * 2)) = some (.string ((rd_T49 l0 x8_1).f0)) ∧ w'.cell? ⟨(ad479.add ((x8_1).toNat * 2)).block, (ad479.add ((x8_1).toNat * 2)).off + 1, none⟩ = some (.slice A479_1 ((rd_T49 l0 x8_1).f1).length c479_1) ∧ w'.cell? (ad479.add ((x8_1).toNat * 2)) = some (.string ((rd_T49 l0 x8_1).f0)) ∧ w'.cell? ⟨(ad479.add ((x8_1).toNat * 2)).block, (ad479.add ((x8_1).toNat * 2)).off + 1, none⟩ = some (.slice A479_1 ((rd_T49 l0 x8_1).f1).length c479_1) ∧ w'.cell? (ad479.add ((x8_1).toNat * 2)) = some (.string ((rd_T49 l0 x8_1).f0)) ∧ w'.cell? ⟨(ad479.add ((x8_1).toNat * 2)).block, (ad479.add ((x8_1).toNat * 2)).off + 1, none⟩ = some (.slice A479_1 ((rd_T49 l0 x8_1).f1).length c479_1)) (ds := []) #[false, false, false, false, false, false, false, false, false, false, false, false, false, false, false, false, false, false, false, false, false, false, false, false, false] (by kernel_rfl) rfl rfl ⟨((HB.out.cell (World.block_lt_of_cell? w _ hw479_0)).trans hw479_0), ((HB.out.cell (World.block_lt_of_cell? w _ hw479_1)).trans hw479_1), ((HB.out.cell (World.block_lt_of_cell? w _ hw480_0)).trans hw480_0), ((HB.out.cell (World.block_lt_of_cell? w _ hw480_1)).trans hw480_1), ((HB.out.cell (World.block_lt_of_cell? w _ hw481_0)).trans hw481_0), ((HB.out.cell (World.block_lt_of_cell? w _ hw481_1)).trans hw481_1)⟩ (fun hHeld => ?_); refine with_tabW cadencelaw2_Make.tab5 cadencelaw2_Make.bits5 (fun HT_ HW_ => ?_)
                    generalize wc.drew = w15 at HO_7 HB HR479_1 HR480_1 HR481_1 hx479_0 hx479_1 hx480_0 hx480_1 hx481_0 hx481_1 hHeld ⊢
                    refine pure_ (i := 0) (N := some 24) (v := ?_) (a' := ?_) #[true, false, false, false, false, false, false, false, false, false, false, false, false, false, false, false, false, false, false, false, false, false, false, false, false] rfl rfl (any_of HT_.out (by kernel_rfl)) (fun _ _ _ h => h) (Or.inl ⟨by rfl, ?_⟩) ?_ ?_
                    rotate_left
                    · intro w'
                      go_simp
                      with_reducible rfl
                    rotate_left
                    · simp only [Act.put, List.setIfInBounds_toArray, List.set_cons_zero, List.set_cons_succ, i64_w, i32_w]
                      rfl
                    refine pure_ (i := 1) (N := some 25) (v := ?_) (a' := ?_) #[true, true, false, false, false, false, false, false, false, false, false, false, false, false, false, false, false, false, false, false, false, false, false, false, false] rfl rfl (any_of HT_.out (by kernel_rfl)) (fun _ _ _ h => h) (Or.inl ⟨by rfl, ?_⟩) ?_ ?_
                    rotate_left
                    · intro w'
                      go_simp
                      with_reducible rfl
                    rotate_left
                    · simp only [Act.put, List.setIfInBounds_toArray, List.set_cons_zero, List.set_cons_succ, i64_w, i32_w]
                      rfl
                    refine pure_ (i := 2) (N := some 26) (v := ?_) (a' := ?_) #[true, true, true, false, false, false, false, false, false, false, false, false, false, false, false, false, false, false, false, false, false, false, false, false, false] rfl rfl (any_of HT_.out (by kernel_rfl)) (fun _ _ _ h => h) (Or.inl ⟨by rfl, ?_⟩) ?_ ?_
                    rotate_left
                    · intro w'
                      go_simp
                      with_reducible rfl
                    rotate_left
                    · simp only [Act.put, List.setIfInBounds_toArray, List.set_cons_zero, List.set_cons_succ, i64_w, i32_w]
                      rfl
                    refine pure_ (i := 3) (N := some 27) (v := ?_) (a' := ?_) #[true, true, true, true, false, false, false, false, false, false, false, false, false, false, false, false, false, false, false, false, false, false, false, false, false] rfl rfl (any_of HT_.out (by kernel_rfl)) (fun _ _ _ h => h) (Or.inl ⟨by rfl, ?_⟩) ?_ ?_
                    rotate_left
                    · intro w'
                      go_simp
                      with_reducible rfl
                    rotate_left
                    · simp only [Act.put, List.setIfInBounds_toArray, List.set_cons_zero, List.set_cons_succ, i64_w, i32_w]
                      rfl
                    refine pure_ (i := 4) (N := some 28) (v := ?_) (a' := ?_) #[true, true, true, true, true, false, false, false, false, false, false, false, false, false, false, false, false, false, false, false, false, false, false, false, false] rfl rfl (any_of HT_.out (by kernel_rfl)) (fun _ _ _ h => h) (Or.inl ⟨by rfl, ?_⟩) ?_ ?_
                    rotate_left
                    · intro w'
                      go_simp
                      with_reducible rfl
                    rotate_left
                    · simp only [Act.put, List.setIfInBounds_toArray, List.set_cons_zero, List.set_cons_succ, i64_w, i32_w]
                      rfl
                    refine pure_ (i := 6) (N := some 30) (v := ?_) (a' := ?_) #[true, true, true, true, true, false, true, false, false, false, false, false, false, false, false, false, false, false, false, false, false, false, false, false, false] rfl rfl (any_of HT_.out (by kernel_rfl)) (fun _ _ _ h => h) (Or.inl ⟨by rfl, ?_⟩) ?_ ?_
                    rotate_left
                    · intro w'
                      go_simp
                      with_reducible rfl
                    rotate_left
                    · simp only [Act.put, List.setIfInBounds_toArray, List.set_cons_zero, List.set_cons_succ, i64_w, i32_w]
                      rfl
                    refine pure_ (i := 7) (N := some 31) (v := ?_) (a' := ?_) #[true, true, true, true, true, false, true, true, false, false, false, false, false, false, false, false, false, false, false, false, false, false, false, false, false] rfl rfl (any_of HT_.out (by kernel_rfl)) (fun _ _ _ h => h) (Or.inl ⟨by rfl, ?_⟩) ?_ ?_
                    rotate_left
                    · intro w'
                      go_simp
                      with_reducible rfl
                    rotate_left
                    · simp only [Act.put, List.setIfInBounds_toArray, List.set_cons_zero, List.set_cons_succ, i64_w, i32_w]
                      rfl
                    refine pure_ (i := 8) (N := some 32) (v := ?_) (a' := ?_) #[true, true, true, true, true, false, true, true, true, false, false, false, false, false, false, false, false, false, false, false, false, false, false, false, false] rfl rfl (any_of HT_.out (by kernel_rfl)) (fun _ _ _ h => h) (Or.inl ⟨by rfl, ?_⟩) ?_ ?_
                    rotate_left
                    · intro w'
                      go_simp
                      with_reducible rfl
                    rotate_left
                    · simp only [Act.put, List.setIfInBounds_toArray, List.set_cons_zero, List.set_cons_succ, i64_w, i32_w]
                      rfl
                    refine pure_ (i := 9) (N := some 33) (v := ?_) (a' := ?_) #[true, true, true, true, true, false, true, true, true, true, false, false, false, false, false, false, false, false, false, false, false, false, false, false, false] rfl rfl (any_of HT_.out (by kernel_rfl)) (fun _ _ _ h => h) (Or.inl ⟨by rfl, ?_⟩) ?_ ?_
                    rotate_left
                    · intro w'
                      go_simp
                      with_reducible rfl
                    rotate_left
                    · simp only [Act.put, List.setIfInBounds_toArray, List.set_cons_zero, List.set_cons_succ, i64_w, i32_w]
                      rfl
                    refine pure_ (i := 14) (N := some 38) (v := ?_) (a' := ?_) #[true, true, true, true, true, false, true, true, true, true, false, false, false, false, true, false, false, false, false, false, false, false, false, false, false] rfl rfl (any_of HT_.out (by kernel_rfl)) (fun _ _ _ h => h) (Or.inl ⟨by rfl, ?_⟩) ?_ ?_
                    rotate_left
                    · intro w'
                      go_simp
                      with_reducible rfl
                    rotate_left
                    · simp only [Act.put, List.setIfInBounds_toArray, List.set_cons_zero, List.set_cons_succ, i64_w, i32_w]
                      rfl
                    refine pure_ (i := 15) (N := some 39) (v := ?_) (a' := ?_) #[true, true, true, true, true, false, true, true, true, true, false, false, false, false, true, true, false, false, false, false, false, false, false, false, false] rfl rfl (any_of HT_.out (by kernel_rfl)) (fun _ _ _ h => h) (Or.inl ⟨by rfl, ?_⟩) ?_ ?_
                    rotate_left
                    · intro w'
                      go_simp
                      with_reducible rfl
                    rotate_left
                    · simp only [Act.put, List.setIfInBounds_toArray, List.set_cons_zero, List.set_cons_succ, i64_w, i32_w]
                      rfl
                    refine pure_ (i := 16) (N := some 40) (v := ?_) (a' := ?_) #[true, true, true, true, true, false, true, true, true, true, false, false, false, false, true, true, true, false, false, false, false, false, false, false, false] rfl rfl (any_of HT_.out (by kernel_rfl)) (fun _ _ _ h => h) (Or.inl ⟨by rfl, ?_⟩) ?_ ?_
                    rotate_left
                    · intro w'
                      go_simp
                      with_reducible rfl
                    rotate_left
                    · simp only [Act.put, List.setIfInBounds_toArray, List.set_cons_zero, List.set_cons_succ, i64_w, i32_w]
                      rfl
                    refine pure_ (i := 17) (N := some 41) (v := ?_) (a' := ?_) #[true, true, true, true, true, false, true, true, true, true, false, false, false, false, true, true, true, true, false, false, false, false, false, false, false] rfl rfl (any_of HT_.out (by kernel_rfl)) (fun _ _ _ h => h) (Or.inl ⟨by rfl, ?_⟩) ?_ ?_
                    rotate_left
                    · intro w'
                      go_simp
                      with_reducible rfl
                    rotate_left
                    · simp only [Act.put, List.setIfInBounds_toArray, List.set_cons_zero, List.set_cons_succ, i64_w, i32_w]
                      rfl
                    refine pure_ (i := 19) (N := some 43) (v := ?_) (a' := ?_) #[true, true, true, true, true, false, true, true, true, true, false, false, false, false, true, true, true, true, false, true, false, false, false, false, false] rfl rfl (any_of HT_.out (by kernel_rfl)) (fun _ _ _ h => h) (Or.inl ⟨by rfl, ?_⟩) ?_ ?_
                    rotate_left
                    · intro w'
                      go_simp
                      with_reducible rfl
                    rotate_left
                    · simp only [Act.put, List.setIfInBounds_toArray, List.set_cons_zero, List.set_cons_succ, i64_w, i32_w]
                      rfl
                    refine pure_ (i := 20) (N := some 44) (v := ?_) (a' := ?_) #[true, true, true, true, true, false, true, true, true, true, false, false, false, false, true, true, true, true, false, true, true, false, false, false, false] rfl rfl (any_of HT_.out (by kernel_rfl)) (fun _ _ _ h => h) (Or.inl ⟨by rfl, ?_⟩) ?_ ?_
                    rotate_left
                    · intro w'
                      go_simp
                      with_reducible rfl
                    rotate_left
                    · simp only [Act.put, List.setIfInBounds_toArray, List.set_cons_zero, List.set_cons_succ, i64_w, i32_w]
                      rfl
                    refine pure_ (i := 21) (N := some 45) (v := ?_) (a' := ?_) #[true, true, true, true, true, false, true, true, true, true, false, false, false, false, true, true, true, true, false, true, true, true, false, false, false] rfl rfl (any_of HT_.out (by kernel_rfl)) (fun _ _ _ h => h) (Or.inl ⟨by rfl, ?_⟩) ?_ ?_
                    rotate_left
                    · intro w'
                      go_simp
                      with_reducible rfl
                    rotate_left
                    · simp only [Act.put, List.setIfInBounds_toArray, List.set_cons_zero, List.set_cons_succ, i64_w, i32_w]
                      rfl
                    refine take_ (i := 5) (N := some 29) (v := ?_) (a' := ?_) #[true, true, true, true, true, true, true, true, true, true, false, false, false, false, true, true, true, true, false, true, true, true, false, false, false] rfl rfl (take_ofW HT_.out HW_.out (by kernel_rfl)) (fun _ _ _ h => h) (Or.inl ⟨by rfl, ?_⟩) hHeld ?_ ?_
                    rotate_left
                    · rintro w' ⟨s0, s1, s2, s3, s4, s5⟩
                      go_simp
                      with_reducible rfl
                    rotate_left
                    · simp only [Act.put, List.setIfInBounds_toArray, List.set_cons_zero, List.set_cons_succ, i64_w, i32_w]
                      rfl
                    refine take_ (i := 10) (N := some 34) (v := ?_) (a' := ?_) #[true, true, true, true, true, true, true, true, true, true, true, false, false, false, true, true, true, true, false, true, true, true, false, false, false] rfl rfl (take_ofW HT_.out HW_.out (by kernel_rfl)) (fun _ _ _ h => h) (Or.inl ⟨by rfl, ?_⟩) hHeld ?_ ?_
                    rotate_left
                    · rintro w' ⟨s0, s1, s2, s3, s4, s5⟩
                      go_simp
                      with_reducible rfl
                    rotate_left
                    · simp only [Act.put, List.setIfInBounds_toArray, List.set_cons_zero, List.set_cons_succ, i64_w, i32_w]
                      rfl
                    refine pure_ (i := 11) (N := some 35) (v := ?_) (a' := ?_) #[true, true, true, true, true, true, true, true, true, true, true, true, false, false, true, true, true, true, false, true, true, true, false, false, false] rfl rfl (any_of HT_.out (by kernel_rfl)) (fun _ _ _ h => h) (Or.inl ⟨by rfl, ?_⟩) ?_ ?_
                    rotate_left
                    · intro w'
                      go_simp
                      with_reducible rfl
                    rotate_left
                    · simp only [Act.put, List.setIfInBounds_toArray, List.set_cons_zero, List.set_cons_succ, i64_w, i32_w]
                      rfl
                    refine pure_ (i := 12) (N := some 36) (v := ?_) (a' := ?_) #[true, true, true, true, true, true, true, true, true, true, true, true, true, false, true, true, true, true, false, true, true, true, false, false, false] rfl rfl (any_of HT_.out (by kernel_rfl)) (fun _ _ _ h => h) (Or.inl ⟨by rfl, ?_⟩) ?_ ?_
                    rotate_left
                    · intro w'
                      go_simp
                      with_reducible rfl
                    rotate_left
                    · simp only [Act.put, List.setIfInBounds_toArray, List.set_cons_zero, List.set_cons_succ, i64_w, i32_w]
                      rfl
                    refine pure_ (i := 13) (N := some 37) (v := ?_) (a' := ?_) #[true, true, true, true, true, true, true, true, true, true, true, true, true, true, true, true, true, true, false, true, true, true, false, false, false] rfl rfl (any_of HT_.out (by kernel_rfl)) (fun _ _ _ h => h) (Or.inl ⟨by rfl, ?_⟩) ?_ ?_
                    rotate_left
                    · intro w'
                      go_simp
                      with_reducible rfl
                    rotate_left
                    · simp only [Act.put, List.setIfInBounds_toArray, List.set_cons_zero, List.set_cons_succ, i64_w, i32_w]
                      rfl
                    refine take_ (i := 18) (N := some 42) (v := ?_) (a' := ?_) #[true, true, true, true, true, true, true, true, true, true, true, true, true, true, true, true, true, true, true, true, true, true, false, false, false] rfl rfl (take_ofW HT_.out HW_.out (by kernel_rfl)) (fun _ _ _ h => h) (Or.inl ⟨by rfl, ?_⟩) hHeld ?_ ?_
                    rotate_left
                    · rintro w' ⟨s0, s1, s2, s3, s4, s5⟩
                      go_simp
                      with_reducible rfl
                    rotate_left
                    · simp only [Act.put, List.setIfInBounds_toArray, List.set_cons_zero, List.set_cons_succ, i64_w, i32_w]
                      rfl
                    refine one_ (i := 22) (N := some 46) #[true, true, true, true, true, true, true, true, true, true, true, true, true, true, true, true, true, true, true, true, true, true, true, false, false] rfl rfl (one_of HT_.out (by kernel_rfl)) (by decide) (fun K hK => ?_)
                    refine goes_ Try.func18 (by kernel_rfl) rfl #[.slice A479_1 ((rd_T49 l0 x8_1).f1).length c479_1, .int .i64 a1, .int .i64 (wrap64 (a2 - 1))] (by rfl) rfl rfl (by (try simp only [List.map_toArray, List.map_cons, List.map_nil]); first | done | rfl | (simp only [List.length_drop, List.length_take]; rfl)) ?_
                    with_reducible refine (ih kj3 (by have := HK1.out; have := HJ3.out; omega) _ _ ((rd_T49 l0 x8_1).f1) a1 (wrap64 (a2 - 1)) t482 _ ?side1 ?side2 A13.out).mono ?_
                    (case side1 => repeat (first | exact (Kd.C_below HR481_1.out HB.out) | (with_reducible refine cA_ ?_ _) | (with_reducible refine cN_ ?_ _) | (with_reducible refine cD_ ?_)))
                    (case side2 => exact HC481_1.out)
                    rintro e w16 ⟨v483, rfl, ho0, hb⟩
                    refine ⟨_, rfl, ?_⟩
                    have n0_ := Aside0.mk (Kd.N_elder' (by (with_reducible repeat (first | apply nA_ | apply nN_ | apply nD_)); exact HO_7.out) (Kd.N_base ho0) hb)
                    have n1_ := Aside0.mk (Kd.N_lower (Kd.N_mono (ok' := fun k_ => (w.heap.size ≤ k_) ∧ some k_ ≠ (u7 : Value).ownBlock) ho0 (fun k_ hk_ => ⟨(Nat.le_trans (below_size (by repeat (first | (with_reducible first | exact HB.out | apply bA_ | apply bN_ | apply bD_) | exact HB.out))) hk_), (Kd.fresh' (Kd.N_lt (by (with_reducible repeat (first | apply nA_ | apply nN_ | apply nD_)); exact HO_7.out)) k_ hk_)⟩)) (below_size (by repeat (first | (with_reducible first | exact HB.out | apply bA_ | apply bN_ | apply bD_) | exact HB.out))))
                    have n2_ := Aside0.mk (below_step (by repeat (first | (with_reducible first | exact HB.out | apply bA_ | apply bN_ | apply bD_) | exact HB.out)) hb)
                    clear HO_7
                    clear HB
                    have HO_7 := n0_
                    have HO484 := n1_
                    have HB := n2_
                    clear n0_ n1_ n2_
                    (try clear hb)
                    (try clear hb2)
                    (try clear hk)
                    (try clear hi)
                    (try clear ho0)
                    obtain ⟨Ao17, co17, eo17⟩ := Kd.N_slice HO_7.out
                    (first | subst eo17 | (injection eo17 with f1_ f2_ f3_; have f4_ := f1_.symm; have f5_ := f3_.symm; clear f1_ f2_ f3_; subst f4_; subst f5_))
                    obtain ⟨Ao18, co18, eo18⟩ := Kd.N_slice HO484.out
                    (first | subst eo18 | (injection eo18 with f1_ f2_ f3_; have f4_ := f1_.symm; have f5_ := f3_.symm; clear f1_ f2_ f3_; subst f4_; subst f5_))
                    refine hK.out _ _ ⟨((HB.out.cell (World.block_lt_of_cell? w _ hw479_0)).trans hw479_0), ((HB.out.cell (World.block_lt_of_cell? w _ hw479_1)).trans hw479_1), ((HB.out.cell (World.block_lt_of_cell? w _ hw480_0)).trans hw480_0), ((HB.out.cell (World.block_lt_of_cell? w _ hw480_1)).trans hw480_1), ((HB.out.cell (World.block_lt_of_cell? w _ hw481_0)).trans hw481_0), ((HB.out.cell (World.block_lt_of_cell? w _ hw481_1)).trans hw481_1)⟩ (fun hHeld => ?_)
                    clear hK K
                    refine norm_ (a' := ?_) ?_ ?_
                    rotate_left
                    · show Act.put _ (some 46) _ = _
                      simp only [Act.put, List.setIfInBounds_toArray, List.set_cons_zero, List.set_cons_succ, i64_w, i32_w]
                      rfl
                    refine one_ (i := 23) (N := some 47) #[true, true, true, true, true, true, true, true, true, true, true, true, true, true, true, true, true, true, true, true, true, true, true, true, false] rfl rfl (one_of HT_.out (by kernel_rfl)) (by decide) (fun K hK => ?_)
                    refine goes_ Try.func24 (by kernel_rfl) rfl #[.slice Ao17 x7_1.length co17, .string (((rd_T49 l0 x8_1).f0).extract 0 ((ji10) : Int).toNat), .slice Ao18 t482.length co18] (by rfl) rfl rfl (by (try simp only [List.map_toArray, List.map_cons, List.map_nil]); first | done | (simp only [hji10]; rfl) | rfl | (simp only [List.length_drop, List.length_take]; rfl)) ?_
                    with_reducible refine (cadenceref2_With.calls kj3 (fun k_ => ((w.heap.size ≤ k_) ∧ some k_ ≠ (.slice Ao18 t482.length co18 : Value).ownBlock)) _ _ x7_1 (((rd_T49 l0 x8_1).f0).extract 0 ((ji10) : Int).toNat) (fun k_ => ((w.heap.size ≤ k_) ∧ some k_ ≠ (.slice Ao17 x7_1.length co17 : Value).ownBlock)) _ _ t482 t485 _ ?side1 ?side2 A14.out).mono ?_
                    (case side1 => exact Kd.N_V (HO_7.out))
                    (case side2 => exact Kd.N_V (HO484.out))
                    rintro e w19 ⟨v486, rfl, ho0, hb⟩
                    refine ⟨_, rfl, ?_⟩
                    have n0_ := Aside0.mk (Kd.N_elder' (by (with_reducible repeat (first | apply nA_ | apply nN_ | apply nD_)); exact HO_7.out) (Kd.N_base ho0) hb)
                    have n1_ := Aside0.mk (Kd.N_elder' (by (with_reducible repeat (first | apply nA_ | apply nN_ | apply nD_)); exact HO484.out) (Kd.N_base ho0) hb)
                    have n2_ := Aside0.mk (Kd.N_lower (Kd.N_mono (ok' := fun k_ => (w.heap.size ≤ k_)) ho0 (fun k_ hk_ => Or.elim hk_ (fun hs_ => Or.elim hs_ (fun hs_ => hs_.1) (fun hs_ => hs_.1)) (fun hn_ => (Nat.le_trans (below_size (by repeat (first | (with_reducible first | exact HB.out | apply bA_ | apply bN_ | apply bD_) | exact HB.out))) hn_)))) (below_size (by repeat (first | (with_reducible first | exact HB.out | apply bA_ | apply bN_ | apply bD_) | exact HB.out))))
                    have n3_ := Aside0.mk (below_step (by repeat (first | (with_reducible first | exact HB.out | apply bA_ | apply bN_ | apply bD_) | exact HB.out)) hb)
                    clear HO_7
                    clear HO484
                    clear HB
                    have HO_7 := n0_
                    have HO484 := n1_
                    have HO487 := n2_
                    have HB := n3_
                    clear n0_ n1_ n2_ n3_
                    (try clear hb)
                    (try clear hb2)
                    (try clear hk)
                    (try clear hi)
                    (try clear ho0)
                    refine hK.out _ _ ⟨((HB.out.cell (World.block_lt_of_cell? w _ hw479_0)).trans hw479_0), ((HB.out.cell (World.block_lt_of_cell? w _ hw479_1)).trans hw479_1), ((HB.out.cell (World.block_lt_of_cell? w _ hw480_0)).trans hw480_0), ((HB.out.cell (World.block_lt_of_cell? w _ hw480_1)).trans hw480_1), ((HB.out.cell (World.block_lt_of_cell? w _ hw481_0)).trans hw481_0), ((HB.out.cell (World.block_lt_of_cell? w _ hw481_1)).trans hw481_1)⟩ (fun hHeld => ?_)
                    clear hK K
                    refine norm_ (a' := ?_) ?_ ?_
                    rotate_left
                    · show Act.put _ (some 47) _ = _
                      simp only [Act.put, List.setIfInBounds_toArray, List.set_cons_zero, List.set_cons_succ, i64_w, i32_w]
                      rfl
                    refine pure_ (i := 24) (N := some 7) (v := ?_) (a' := ?_) #[true, true, true, true, true, true, true, true, true, true, true, true, true, true, true, true, true, true, true, true, true, true, true, true, true] rfl rfl (any_of HT_.out (by kernel_rfl)) (fun _ _ _ h => h) (Or.inl ⟨by rfl, ?_⟩) ?_ ?_
                    rotate_left
                    · intro w'
                      go_simp
                      with_reducible rfl
                    rotate_left
                    · simp only [Act.put, List.setIfInBounds_toArray, List.set_cons_zero, List.set_cons_succ, i64_w, i32_w]
                      rfl
                    refine done_ (done_of HT_.out (by kernel_rfl)) ?_
                    try go_wp2
                    go_roundg kj3
                    case measure => have := HK1.out; have := HJ3.out; omega
                    case rel => exact ⟨(t485), (wrap64 (x8_1 + 1)), (by first | rfl | (simp; done) | (simp [*]; done)), H', ⟨by have := HK1.out; have := HJ3.out; omega⟩, ⟨by (with_reducible repeat (first | apply nA_ | apply nN_ | apply nD_)); exact HO487.out⟩, ⟨by repeat (first | (with_reducible first | exact HB.out | apply bA_ | apply bN_ | apply bD_) | exact HB.out)⟩⟩
                  · rw [if_neg c12] at H
                    exact absurd H (by simp)
                · rw [if_neg c11] at H
                  exact absurd H (by simp)
              · rw [if_neg c9] at H
                exact absurd H (by simp)
            · rw [if_neg c8] at H
              exact absurd H (by simp)
          · replace c7 := Bool.eq_false_iff.mpr c7
            subst c7
            have H1 : (some x7_1) = some r := by rw [if_neg (show ¬ (false = true) by decide)] at H; exact H
            clear H
            have H := H1
            clear H1
            obtain rfl := Option.some.inj H
            go_wp2
            go_ret
            exact ⟨_, by first | rfl | (simp [errW_none, errW_some] <;> rfl) | (simp [*, errW_none, errW_some] <;> rfl), by (with_reducible repeat (first | apply nA_ | apply nN_ | apply nD_)); exact HO_7.out, by repeat (first | (with_reducible first | exact HB.out | apply bA_ | apply bN_ | apply bD_) | exact HB.out)⟩

end Go.Proofs.Ytbhgocpenbibgaa.PX
/- Make: a tree of raw edges, their names cut to thirty bytes: in order, so deep, so wide. -/
set_option linter.unusedVariables false
namespace Go.Proofs.Ytbhgocpenbibgaa.PX
open Go.RowKit Go.Proofs.YtbhgocpenbibgaaW.PrintWords Go.Proofs.YtbhgocpenbibgaaW.PrintLast Go.Proofs.YtbhgocpenbibgaaW.PrintMore Go.Proofs.Ytbhgocpenbibgaa
theorem make_ev {l : List Raw} (h : RawOk l) : ∀ (w D : Nat), w ≤ 100 → D ≤ 100 → ∃ t, Ok w D t ∧ Ev (fun k => cadencelaw2_Make.f k l (w : Int) (D : Int)) t := by
  induction h with
  | mk l hl hk ih =>
    intro w D hw hD
    have stop : ∀ (t : Tr) (i : Nat), (i < l.length → i < w → D = 0) → Ev (fun k => cadencelaw2_Make.l0 k l (w : Int) (D : Int) t (i : Int)) t := by
      intro t i hi
      have h1 : Ev (fun k => cadencelaw2_Make.j1 k l (w : Int) (D : Int) t (i : Int) false) t := by
        refine Ev.step (f := fun _ => some t) (fun k => ?_) (Ev.now _)
        simp only [cadencelaw2_Make.j1]
        rw [if_neg Bool.false_ne_true]
      refine Ev.step (f := fun k => cadencelaw2_Make.j1 k l (w : Int) (D : Int) t (i : Int) false) (fun k => ?_) h1
      simp only [cadencelaw2_Make.l0]
      by_cases c1 : (i : Int) < (l.length : Int)
      · rw [if_pos c1]
        by_cases c2 : (i : Int) < (w : Int)
        · rw [if_pos c2, decide_eq_false (by have := hi (by omega) (by omega); omega)]
        · rw [if_neg c2]
      · rw [if_neg c1]
    have loop : ∀ (m i : Nat) (t : Tr), i + m = l.length → i ≤ w → t.length ≤ i → Ok w D t → ∃ r, Ok w D r ∧ Ev (fun k => cadencelaw2_Make.l0 k l (w : Int) (D : Int) t (i : Int)) r := by
      intro m
      induction m with
      | zero => intro i t hi _ _ ht; exact ⟨t, ht, stop t i (by omega)⟩
      | succ m ihm =>
        intro i t hi hiw htl ht
        by_cases hc : i < w ∧ 0 < D
        · obtain ⟨d, rfl⟩ : ∃ d, D = d + 1 := ⟨D - 1, by omega⟩
          have hil : i < l.length := by omega
          obtain ⟨x, hx, hxe⟩ := ih l[i] (List.getElem_mem hil) w d hw (by omega)
          have hm0 : 0 ≤ mn (l[i].f0.size : Int) 30 := by unfold mn; split <;> omega
          have hm1 : mn (l[i].f0.size : Int) 30 ≤ (l[i].f0.size : Int) := by unfold mn; split <;> omega
          generalize hn : l[i].f0.extract 0 (mn (l[i].f0.size : Int) 30).toNat = n
          obtain ⟨q, hq, hqe⟩ := ihm (i + 1) (withT t n x) (by omega) (by omega) (by have := withT_length t n x; omega) (ht.withT hx (by have := withT_length t n x; omega))
          refine ⟨q, hq, ?_⟩
          have h1 : Ev (fun k => cadencelaw2_Make.j1 k l (w : Int) ((d + 1 : Nat) : Int) t (i : Int) true) q := by
            refine Ev.step (f := fun k => (cadencelaw2_Make.f k l[i].f1 (w : Int) (d : Int)).bind fun u => (cadenceref2_With.f k t n u).bind fun v => cadencelaw2_Make.l0 k l (w : Int) ((d + 1 : Nat) : Int) v ((i + 1 : Nat) : Int)) (fun k => ?_) (Ev.bind hxe (Ev.bind (with_ev t _ x (by omega)) hqe))
            simp only [cadencelaw2_Make.j1]
            rw [if_pos trivial, if_pos (by omega), if_pos (by omega), rdRaw_nat hil, if_pos hm0, if_pos hm1, wrap_succ (by omega), show wrap64 (((d + 1 : Nat) : Int) - 1) = (d : Int) by rw [wrap_id (by omega) (by omega)]; omega, hn]
          refine Ev.step (f := fun k => cadencelaw2_Make.j1 k l (w : Int) ((d + 1 : Nat) : Int) t (i : Int) true) (fun k => ?_) h1
          simp only [cadencelaw2_Make.l0]
          rw [if_pos (by omega), if_pos (by omega), decide_eq_true (by omega)]
        · exact ⟨t, ht, stop t i (by omega)⟩
    obtain ⟨r, hr, he⟩ := loop l.length 0 [] (by omega) (by omega) (by simp) (Ok.nil _ _)
    exact ⟨r, hr, Ev.step (fun k => by simp only [cadencelaw2_Make.f]; rfl) he⟩
end Go.Proofs.Ytbhgocpenbibgaa.PX
-- written by wip/tools/hybrid.py (over the kit's print.py, with functions proved by hand beside it) for this claim
namespace Go.Proofs.Ytbhgocpenbibgaa.PX
open Go.RowKit Go.Proofs.YtbhgocpenbibgaaW.PrintWords Go.Proofs.YtbhgocpenbibgaaW.PrintLast Go.Proofs.YtbhgocpenbibgaaW.PrintMore
attribute [local go_sem] max2_int min2_int max_two min_two max_three min_three max_four min_four   -- for this text's walks alone
set_option linter.unusedVariables false
set_option linter.unusedSimpArgs false

/-! ### cadencelaw2_within: function 34 -/
def cadencelaw2_within.f (a0 : Int) (a1 : Int) : Option (Int) := if a1 = 0 then (none) else (if (Int.tmod a0 a1) < 0 then (some (wrap64 ((Int.tmod a0 a1) + a1))) else (some (Int.tmod a0 a1)))
set_option maxHeartbeats 8000000 in
set_option maxRecDepth 100000 in
theorem cadencelaw2_within.calls (a0 : Int) (a1 : Int) (r : Int) (w : World) (h : cadencelaw2_within.f a0 a1 = some r) :
    Calls Try.prog 34 #[.int .i64 a0, .int .i64 a1] w fun e w' => e = .returned (.int .i64 r) ∧ Drawn0 w w' := by
  have H : (if a1 = 0 then (none) else (if (Int.tmod a0 a1) < 0 then (some (wrap64 ((Int.tmod a0 a1) + a1))) else (some (Int.tmod a0 a1)))) = some r := h
  clear h
  by_cases c3 : a1 = 0
  · rw [if_pos c3] at H
    exact absurd H (by simp)
  · rw [if_neg c3] at H
    have c3b0 : (a1 == 0) = false := beq_eq_false_iff_ne.mpr c3
    have c3b1 : (a1 != 0) = true := bne_iff_ne.mpr c3
    by_cases c4 : (Int.tmod a0 a1) < 0
    · rw [if_pos c4] at H
      have c4b0 : decide ((Int.tmod a0 a1) < 0) = true := decide_eq_true c4
      clear c4
      obtain rfl := Option.some.inj H
      go_enter Try.func34, Try.ntmps34
      go_wp2
      go_ret
      exact ⟨by first | rfl | (simp; done) | (simp [*]; done), by repeat (first | exact Drawn0.refl _ | apply Drawn0.step)⟩
    · rw [if_neg c4] at H
      have c4b0 : decide ((Int.tmod a0 a1) < 0) = false := decide_eq_false c4
      clear c4
      obtain rfl := Option.some.inj H
      go_enter Try.func34, Try.ntmps34
      go_wp2
      go_ret
      exact ⟨by first | rfl | (simp; done) | (simp [*]; done), by repeat (first | exact Drawn0.refl _ | apply Drawn0.step)⟩

end Go.Proofs.Ytbhgocpenbibgaa.PX
-- written by wip/tools/hybrid.py (over the kit's print.py, with functions proved by hand beside it) for this claim
namespace Go.Proofs.Ytbhgocpenbibgaa.PX
open Go.RowKit Go.Proofs.YtbhgocpenbibgaaW.PrintWords Go.Proofs.YtbhgocpenbibgaaW.PrintLast Go.Proofs.YtbhgocpenbibgaaW.PrintMore
attribute [local go_sem] max2_int min2_int max_two min_two max_three min_three max_four min_four   -- for this text's walks alone
set_option linter.unusedVariables false
set_option linter.unusedSimpArgs false

/-! ### cadencelaw2_Path: function 22 -/
mutual
def cadencelaw2_Path.l0 : Nat → List (S45) → List Int → List ByteArray → Int → Option (List ByteArray)
  | 0, _, _, _, _ => none
  | k + 1, x0, x1, x5, x6 => if x6 < (x1.length : Int) then (cadencelaw2_Path.j1 k x0 x1 x5 x6 (decide (x6 < 6))) else (cadencelaw2_Path.j1 k x0 x1 x5 x6 false)
def cadencelaw2_Path.j1 : Nat → List (S45) → List Int → List ByteArray → Int → Bool → Option (List ByteArray)
  | 0, _, _, _, _, _ => none
  | k + 1, x0, x1, x5, x6, x17 => if x17 = true then (if 0 ≤ x6 then (if x6 < (x1.length : Int) then ((cadencelaw2_within.f (rd x1 x6) (wrap64 ((x0.length : Int) + 1))).bind fun t522 => (if t522 = (x0.length : Int) then ((some (([(⟨#[]⟩ : ByteArray), (⟨#[97]⟩ : ByteArray), (⟨#[122, 122]⟩ : ByteArray)] : List ByteArray) : List ByteArray)).bind fun y523 => ((cadencelaw2_within.f (wrap64 (Int.tdiv (rd x1 x6) 7)) 3).bind fun t527 => (if 0 ≤ t527 then (if t527 < (y523.length : Int) then (if x5.length < 8796093022208 then ((some (x5 ++ [rdOf ByteArray.empty y523 t527] : List ByteArray)).bind fun y529 => (if x6 < (y529.length : Int) then ((cadenceref2_Kid.f k x0 (rdOf ByteArray.empty y529 x6)).bind fun bt533 => (cadencelaw2_Path.l0 k bt533.1 x1 y529 (wrap64 (x6 + 1)))) else (none))) else (none)) else (none)) else (none)))) else (if 0 ≤ t522 then (if t522 < (x0.length : Int) then (if x5.length < 8796093022208 then (cadencelaw2_Path.l0 k ((rd_T45 x0 t522).f1) x1 (x5 ++ [(rd_T45 x0 t522).f0]) (wrap64 (x6 + 1))) else (none)) else (none)) else (none)))) else (none)) else (none)) else (some x5)
end
def cadencelaw2_Path.f (k : Nat) (l0 : List (S45)) (l1 : List Int) : Option (List ByteArray) := cadencelaw2_Path.l0 k l0 l1 ([] : List ByteArray) 0
theorem cadencelaw2_Path.mono_l : ∀ k, (∀ y0 y1 y2 y3, LeO (cadencelaw2_Path.l0 k y0 y1 y2 y3) (cadencelaw2_Path.l0 (k + 1) y0 y1 y2 y3)) ∧ (∀ y0 y1 y2 y3 y4, LeO (cadencelaw2_Path.j1 k y0 y1 y2 y3 y4) (cadencelaw2_Path.j1 (k + 1) y0 y1 y2 y3 y4))
  | 0 => ⟨fun _ _ _ _ r h => by simp [cadencelaw2_Path.l0] at h, fun _ _ _ _ _ r h => by simp [cadencelaw2_Path.j1] at h⟩
  | k + 1 => by
    obtain ⟨ih0, ih1⟩ := cadencelaw2_Path.mono_l k
    refine ⟨?_, ?_⟩
    · intro y0 y1 y2 y3
      unfold cadencelaw2_Path.l0
      repeat' first
      | (with_reducible exact ih0 _ _ _ _)
      | (with_reducible exact ih1 _ _ _ _ _)
      | (with_reducible exact cadenceref2_Kid.mono _ _ _)
      | (with_reducible exact LeO.refl _)
      | (with_reducible exact LeO.none _)
      | (with_reducible refine LeO.ite ?_ ?_)
      | (with_reducible refine LeO.bind ?_ (fun _ => ?_))
      | exact ih0 _ _ _ _
      | exact ih1 _ _ _ _ _
      | exact cadenceref2_Kid.mono _ _ _
      | exact LeO.none _
      | refine LeO.ite ?_ ?_
      | refine LeO.bind ?_ (fun _ => ?_)
    · intro y0 y1 y2 y3 y4
      unfold cadencelaw2_Path.j1
      repeat' first
      | (with_reducible exact ih0 _ _ _ _)
      | (with_reducible exact ih1 _ _ _ _ _)
      | (with_reducible exact cadenceref2_Kid.mono _ _ _)
      | (with_reducible exact LeO.refl _)
      | (with_reducible exact LeO.none _)
      | (with_reducible refine LeO.ite ?_ ?_)
      | (with_reducible refine LeO.bind ?_ (fun _ => ?_))
      | exact ih0 _ _ _ _
      | exact ih1 _ _ _ _ _
      | exact cadenceref2_Kid.mono _ _ _
      | exact LeO.none _
      | refine LeO.ite ?_ ?_
      | refine LeO.bind ?_ (fun _ => ?_)
theorem cadencelaw2_Path.mono : ∀ a0 a1 k, LeO (cadencelaw2_Path.f k a0 a1) (cadencelaw2_Path.f (k + 1) a0 a1) := by
  intro a0 a1 k
  obtain ⟨ih0, ih1⟩ := cadencelaw2_Path.mono_l k
  unfold cadencelaw2_Path.f
  repeat' first
      | (with_reducible exact ih0 _ _ _ _)
      | (with_reducible exact ih1 _ _ _ _ _)
      | (with_reducible exact cadenceref2_Kid.mono _ _ _)
      | (with_reducible exact LeO.refl _)
      | (with_reducible exact LeO.none _)
      | (with_reducible refine LeO.ite ?_ ?_)
      | (with_reducible refine LeO.bind ?_ (fun _ => ?_))
      | exact ih0 _ _ _ _
      | exact ih1 _ _ _ _ _
      | exact cadenceref2_Kid.mono _ _ _
      | exact LeO.none _
      | refine LeO.ite ?_ ?_
      | refine LeO.bind ?_ (fun _ => ?_)
set_option maxHeartbeats 8000000 in
set_option maxRecDepth 100000 in
theorem cadencelaw2_Path.calls (k : Nat) (P0_ : Nat → Prop) (A0 : Option Addr) (c0 : Nat) (l0 : List (S45)) (A1 : Option Addr) (c1 : Nat) (l1 : List Int) (r : List ByteArray) (w : World) (hs0 : Kd.V k45 45 w w.heap.size (fun k_ => P0_ k_) (.slice A0 l0.length c0) l0) (hr1 : Kd.C (Kd.int .i64) w A1 l1.length l1) (hc1 : l1.length ≤ c1) (h : cadencelaw2_Path.f k l0 l1 = some r) :
    Calls Try.prog 22 #[.slice A0 l0.length c0, .slice A1 l1.length c1] w fun e w' => ∃ v0_ : Value, e = .returned (v0_) ∧ Kd.R Kd.string 9 w' w.heap.size (fun k_ => (w.heap.size ≤ k_)) v0_ r ∧ Below w.heap.size w w' := by
  have HO0 := Aside0.mk (show Kd.V k45 45 w w.heap.size (fun k_ => (P0_ k_ ∨ w.heap.size ≤ k_)) (.slice A0 l0.length c0) l0 from Kd.V_mono hs0 (fun k_ hk => .inl hk))
  have HR1 := Aside0.mk hr1
  have HC1 := Aside0.mk hc1
  clear hr1 hc1
  have HB := Aside0.mk (Below.refl w.heap.size w)
  have H : (cadencelaw2_Path.l0 k l0 l1 ([] : List ByteArray) 0) = some r := h
  clear h
  have H' := Aside0.mk H
  clear H
  go_enter Try.func22, Try.ntmps22
  go_wp2
  go_loopg [0, 5, 6] k (fun kq v0 v5 v6 w' => ∃ (x0_1 : List (S45)) (x5_1 : List ByteArray) (x6_1 : Int), v6 = .int .i64 x6_1 ∧ Aside0 (cadencelaw2_Path.l0 kq x0_1 l1 x5_1 x6_1 = some r) ∧ Aside0 (kq ≤ k) ∧ Aside0 (Kd.V k45 45 w' w.heap.size (fun k_ => (P0_ k_ ∨ w.heap.size ≤ k_) ∧ some k_ ≠ (v5 : Value).ownBlock) v0 x0_1) ∧ Aside0 (Kd.R Kd.string 9 w' w.heap.size (fun k_ => (w.heap.size ≤ k_)) v5 x5_1) ∧ Aside0 (Below w.heap.size w w'))
  case atStart => exact ⟨(l0), (([] : List ByteArray)), (0), (by first | rfl | (simp; done) | (simp [*]; done)), H', ⟨Nat.le_refl _⟩, ⟨by (with_reducible repeat (first | apply vA_ | apply vN_ | apply vD_)); exact Kd.V_mono HO0.out (fun _ hk => ⟨hk, (by simp [Value.ownBlock])⟩)⟩, ⟨by first | exact Kd.R_nil _ _ _ _ _ | exact Kd.N_nil _ _ _ _ _ | exact Kd.V_nil _ _ _ _ _ | exact Kd.Q_nil _ _ _ _ _ | exact Kd.S_nil _ _ _ _ _⟩, ⟨by repeat (first | (with_reducible first | exact HB.out | apply bA_ | apply bN_ | apply bD_) | exact HB.out)⟩⟩
  case round =>
    clear H'
    try clear c1
    try clear c2
    try clear p2
    obtain ⟨x0_1, x5_1, x6_1, rfl, HA, HK1, HO_0, HO_5, HB⟩ := hrel
    cases gk with
    | zero => exact absurd HA.out (by simp [cadencelaw2_Path.l0])
    | succ k1 =>
      have H := HA.out
      clear HA
      simp only [cadencelaw2_Path.l0] at H
      have HC3 := Aside0.mk H
      clear H
      go_upto_region 3 with (fail)
      go_cut [17] (fun v17 wc => ∃ (kq : Nat) (x17_2 : Bool), v17 = .bool x17_2 ∧ Aside0 (cadencelaw2_Path.j1 kq x0_1 l1 x5_1 x6_1 x17_2 = some r) ∧ Aside0 (kq ≤ k1) ∧ Aside0 (Kd.V k45 45 wc w.heap.size (fun k_ => (P0_ k_ ∨ w.heap.size ≤ k_) ∧ some k_ ≠ (u5 : Value).ownBlock) u0 x0_1) ∧ Aside0 (Kd.R Kd.string 9 wc w.heap.size (fun k_ => (w.heap.size ≤ k_)) u5 x5_1) ∧ Aside0 (Below w.heap.size w wc))
      case first =>
        have H := HC3.out
        clear HC3
        by_cases c4 : x6_1 < (l1.length : Int)
        · rw [if_pos c4] at H
          have c4b0 : decide (x6_1 < (l1.length : Int)) = true := decide_eq_true c4
          clear c4
          (first | rw [c4b0] | (simp only [i64_w, i32_w]; rw [c4b0]) | skip)
          have H' := Aside0.mk H
          clear H
          go_wp2
          go_meet
          case rel => exact ⟨_, (decide (x6_1 < 6)), (by first | rfl | (simp; done) | (simp [*]; done)), H', ⟨by have := HK1.out; first | omega | exact Nat.le_refl _⟩, ⟨by (with_reducible repeat (first | apply vA_ | apply vN_ | apply vD_)); exact HO_0.out⟩, ⟨by (with_reducible repeat (first | apply rA_ | apply rN_ | apply rD_)); exact HO_5.out⟩, ⟨by repeat (first | (with_reducible first | exact HB.out | apply bA_ | apply bN_ | apply bD_) | exact HB.out)⟩⟩
        · rw [if_neg c4] at H
          have c4b0 : decide (x6_1 < (l1.length : Int)) = false := decide_eq_false c4
          clear c4
          (first | rw [c4b0] | (simp only [i64_w, i32_w]; rw [c4b0]) | skip)
          have H' := Aside0.mk H
          clear H
          go_wp2
          go_meet
          case rel => exact ⟨_, (false), (by first | rfl | (simp; done) | (simp [*]; done)), H', ⟨by have := HK1.out; first | omega | exact Nat.le_refl _⟩, ⟨by (with_reducible repeat (first | apply vA_ | apply vN_ | apply vD_)); exact HO_0.out⟩, ⟨by (with_reducible repeat (first | apply rA_ | apply rN_ | apply rD_)); exact HO_5.out⟩, ⟨by repeat (first | (with_reducible first | exact HB.out | apply bA_ | apply bN_ | apply bD_) | exact HB.out)⟩⟩
      case rest =>
        clear HC3
        try clear c1
        try clear c2
        try clear p2
        try clear c4
        try clear c4b0
        try clear p2
        obtain ⟨kq, x17_2, rfl, HA, HJ2, HO_0, HO_5, HB⟩ := hcut
        cases kq with
        | zero => exact absurd HA.out (by simp [cadencelaw2_Path.j1])
        | succ kj2 =>
          have H := HA.out
          clear HA
          simp only [cadencelaw2_Path.j1] at H
          by_cases c5 : x17_2 = true
          · subst c5
            have H1 : (if 0 ≤ x6_1 then (if x6_1 < (l1.length : Int) then ((cadencelaw2_within.f (rd l1 x6_1) (wrap64 ((x0_1.length : Int) + 1))).bind fun t522 => (if t522 = (x0_1.length : Int) then ((some (([(⟨#[]⟩ : ByteArray), (⟨#[97]⟩ : ByteArray), (⟨#[122, 122]⟩ : ByteArray)] : List ByteArray) : List ByteArray)).bind fun y523 => ((cadencelaw2_within.f (wrap64 (Int.tdiv (rd l1 x6_1) 7)) 3).bind fun t527 => (if 0 ≤ t527 then (if t527 < (y523.length : Int) then (if x5_1.length < 8796093022208 then ((some (x5_1 ++ [rdOf ByteArray.empty y523 t527] : List ByteArray)).bind fun y529 => (if x6_1 < (y529.length : Int) then ((cadenceref2_Kid.f kj2 x0_1 (rdOf ByteArray.empty y529 x6_1)).bind fun bt533 => (cadencelaw2_Path.l0 kj2 bt533.1 l1 y529 (wrap64 (x6_1 + 1)))) else (none))) else (none)) else (none)) else (none)))) else (if 0 ≤ t522 then (if t522 < (x0_1.length : Int) then (if x5_1.length < 8796093022208 then (cadencelaw2_Path.l0 kj2 ((rd_T45 x0_1 t522).f1) l1 (x5_1 ++ [(rd_T45 x0_1 t522).f0]) (wrap64 (x6_1 + 1))) else (none)) else (none)) else (none)))) else (none)) else (none)) = some r := by rw [if_pos rfl] at H; exact H
            clear H
            have H := H1
            clear H1
            by_cases c6 : 0 ≤ x6_1
            · rw [if_pos c6] at H
              have c6b0 : decide (0 ≤ x6_1) = true := decide_eq_true c6
              clear c6
              by_cases c7 : x6_1 < (l1.length : Int)
              · rw [if_pos c7] at H
                have c7b0 : decide (x6_1 < (l1.length : Int)) = true := decide_eq_true c7
                clear c7
                replace H := Option.bind_eq_some_iff.mp H
                obtain ⟨t522, A80, H⟩ := H
                replace H : (if t522 = (x0_1.length : Int) then ((some (([(⟨#[]⟩ : ByteArray), (⟨#[97]⟩ : ByteArray), (⟨#[122, 122]⟩ : ByteArray)] : List ByteArray) : List ByteArray)).bind fun y523 => ((cadencelaw2_within.f (wrap64 (Int.tdiv (rd l1 x6_1) 7)) 3).bind fun t527 => (if 0 ≤ t527 then (if t527 < (y523.length : Int) then (if x5_1.length < 8796093022208 then ((some (x5_1 ++ [rdOf ByteArray.empty y523 t527] : List ByteArray)).bind fun y529 => (if x6_1 < (y529.length : Int) then ((cadenceref2_Kid.f kj2 x0_1 (rdOf ByteArray.empty y529 x6_1)).bind fun bt533 => (cadencelaw2_Path.l0 kj2 bt533.1 l1 y529 (wrap64 (x6_1 + 1)))) else (none))) else (none)) else (none)) else (none)))) else (if 0 ≤ t522 then (if t522 < (x0_1.length : Int) then (if x5_1.length < 8796093022208 then (cadencelaw2_Path.l0 kj2 ((rd_T45 x0_1 t522).f1) l1 (x5_1 ++ [(rd_T45 x0_1 t522).f0]) (wrap64 (x6_1 + 1))) else (none)) else (none)) else (none))) = some r := H
                have A8 := Aside0.mk A80
                clear A80
                by_cases c9 : t522 = (x0_1.length : Int)
                · rw [if_pos c9] at H
                  have c9b0 : (t522 == (x0_1.length : Int)) = true := beq_iff_eq.mpr c9
                  have c9b1 : (t522 != (x0_1.length : Int)) = false := bne_eq_false_iff_eq.mpr c9
                  clear c9
                  obtain ⟨y523, hy523⟩ : ∃ y_ : List ByteArray, y_ = (([(⟨#[]⟩ : ByteArray), (⟨#[97]⟩ : ByteArray), (⟨#[122, 122]⟩ : ByteArray)] : List ByteArray)) := ⟨_, rfl⟩
                  replace H : ((cadencelaw2_within.f (wrap64 (Int.tdiv (rd l1 x6_1) 7)) 3).bind fun t527 => (if 0 ≤ t527 then (if t527 < (y523.length : Int) then (if x5_1.length < 8796093022208 then ((some (x5_1 ++ [rdOf ByteArray.empty y523 t527] : List ByteArray)).bind fun y529 => (if x6_1 < (y529.length : Int) then ((cadenceref2_Kid.f kj2 x0_1 (rdOf ByteArray.empty y529 x6_1)).bind fun bt533 => (cadencelaw2_Path.l0 kj2 bt533.1 l1 y529 (wrap64 (x6_1 + 1)))) else (none))) else (none)) else (none)) else (none))) = some r := by first | (rw [hy523]; with_reducible exact H) | (have H2_ := (Option.bind_some _ _).symm.trans H; rw [hy523]; with_reducible exact H2_) | (have H2_ := (Option.bind_some _ _).symm.trans H; with_reducible exact H2_) | with_reducible exact H | (rw [hy523]; exact H) | exact H
                  have Ny523 := Aside0.mk hy523
                  clear hy523
                  replace H := Option.bind_eq_some_iff.mp H
                  obtain ⟨t527, A100, H⟩ := H
                  replace H : (if 0 ≤ t527 then (if t527 < (y523.length : Int) then (if x5_1.length < 8796093022208 then ((some (x5_1 ++ [rdOf ByteArray.empty y523 t527] : List ByteArray)).bind fun y529 => (if x6_1 < (y529.length : Int) then ((cadenceref2_Kid.f kj2 x0_1 (rdOf ByteArray.empty y529 x6_1)).bind fun bt533 => (cadencelaw2_Path.l0 kj2 bt533.1 l1 y529 (wrap64 (x6_1 + 1)))) else (none))) else (none)) else (none)) else (none)) = some r := H
                  have A10 := Aside0.mk A100
                  clear A100
                  by_cases c11 : 0 ≤ t527
                  · rw [if_pos c11] at H
                    have c11b0 : decide (0 ≤ t527) = true := decide_eq_true c11
                    clear c11
                    by_cases c12 : t527 < (y523.length : Int)
                    · rw [if_pos c12] at H
                      have c12b0 : decide (t527 < (y523.length : Int)) = true := decide_eq_true c12
                      clear c12
                      by_cases c13 : x5_1.length < 8796093022208
                      · rw [if_pos c13] at H
                        have LMc13 := Aside0.mk c13
                        clear c13
                        obtain ⟨y529, hy529⟩ : ∃ y_ : List ByteArray, y_ = (x5_1 ++ [rdOf ByteArray.empty y523 t527]) := ⟨_, rfl⟩
                        replace H : (if x6_1 < (y529.length : Int) then ((cadenceref2_Kid.f kj2 x0_1 (rdOf ByteArray.empty y529 x6_1)).bind fun bt533 => (cadencelaw2_Path.l0 kj2 bt533.1 l1 y529 (wrap64 (x6_1 + 1)))) else (none)) = some r := by first | (rw [hy529]; with_reducible exact H) | (have H2_ := (Option.bind_some _ _).symm.trans H; rw [hy529]; with_reducible exact H2_) | (have H2_ := (Option.bind_some _ _).symm.trans H; with_reducible exact H2_) | with_reducible exact H | (rw [hy529]; exact H) | exact H
                        have Ny529 := Aside0.mk hy529
                        clear hy529
                        by_cases c14 : x6_1 < (y529.length : Int)
                        · rw [if_pos c14] at H
                          have c14b0 : decide (x6_1 < (y529.length : Int)) = true := decide_eq_true c14
                          clear c14
                          replace H := Option.bind_eq_some_iff.mp H
                          obtain ⟨⟨t533, t536⟩, A150, H⟩ := H
                          replace H : (cadencelaw2_Path.l0 kj2 t533 l1 y529 (wrap64 (x6_1 + 1))) = some r := H
                          have A15 := Aside0.mk A150
                          clear A150
                          have H' := Aside0.mk H
                          clear H
                          have p521 : 0 ≤ (x6_1 : Int) := of_decide_eq_true (by first | (with_reducible assumption) | assumption)
                          have q521 : x6_1 < (l1.length : Int) := of_decide_eq_true (by first | (with_reducible assumption) | assumption)
                          obtain ⟨ad521, e521, hx521_0⟩ := Kd.at_int HR1.out x6_1 p521 q521
                          cases e521
                          replace hx521_0 := (HB.out.cell (World.block_lt_of_cell? w _ hx521_0)).trans hx521_0
                          replace p521 := eq_true p521
                          replace q521 := eq_true q521
                          obtain ⟨Ao16, co16, eo16⟩ := Kd.V_slice HO_0.out
                          subst eo16
                          go_wp2_with (first | ((with_reducible refine gate_callee (f := 34) rfl ?_); refine goesL_ (some 27) rfl rfl Try.func34 (by kernel_rfl) rfl #[.int .i64 (rd l1 x6_1), .int .i64 (wrap64 ((x0_1.length : Int) + 1))] rfl (by (try simp only [List.map_toArray, List.map_cons, List.map_nil]); first | done | rfl | (simp only [List.length_drop, List.length_take]; rfl)) ?_; (with_reducible refine (cadencelaw2_within.calls (rd l1 x6_1) (wrap64 ((x0_1.length : Int) + 1)) t522 _ A8.out).mono ?_); rintro e w' ⟨rfl, ⟨nd, rfl⟩⟩; refine ⟨_, rfl, ?_⟩) | ((with_reducible refine gate_dst (N := 33) rfl ?_); refine Kd.R_lit Kd.string _ 9 ?hg (N := 33) ?hd (xs := ([(⟨#[]⟩ : ByteArray), (⟨#[97]⟩ : ByteArray), (⟨#[122, 122]⟩ : ByteArray)] : List ByteArray)) (inner := [.string (⟨#[]⟩ : ByteArray), .string (⟨#[97]⟩ : ByteArray), .string (⟨#[122, 122]⟩ : ByteArray)]) (ok := fun _ => True) (okp := fun _ => True) ?hr ?hp (fun _ hk => hk) trivial (Below.refl _ _) (Nat.le_refl _) (by simp) ?_; (case hd => rfl); (case hg => rfl); (case hr => first | (go_simp; done) | (go_simp; rfl)); (case hp => exact (Reps.one (show Kd.M Kd.string _ _ _ (⟨#[]⟩ : ByteArray) [.string (⟨#[]⟩ : ByteArray)] from rfl) (Reps.one (show Kd.M Kd.string _ _ _ (⟨#[97]⟩ : ByteArray) [.string (⟨#[97]⟩ : ByteArray)] from rfl) (Reps.one (show Kd.M Kd.string _ _ _ (⟨#[122, 122]⟩ : ByteArray) [.string (⟨#[122, 122]⟩ : ByteArray)] from rfl) (Reps.none _ _))))); intro v524 w17 ho18 hb hg_ hnew_; clear hg_ hnew_; (first | rw [← Ny523.out] at ho18 | (simp only [Int.reduceToNat] at ho18; rw [← Ny523.out] at ho18)); have n0_ := Aside0.mk (Kd.V_elder' (by (with_reducible repeat (first | apply vA_ | apply vN_ | apply vD_)); exact HO_0.out) (Kd.R_base ho18) hb); have n1_ := Aside0.mk (Kd.R_elder' (by (with_reducible repeat (first | apply rA_ | apply rN_ | apply rD_)); exact HO_5.out) (Kd.R_base ho18) hb); have n2_ := Aside0.mk (Kd.R_lower (Kd.R_new' (Kd.R_newM (M := fun k_ => (w.heap.size ≤ k_)) ho18 (below_size (by repeat (first | (with_reducible first | exact HB.out | apply bA_ | apply bN_ | apply bD_) | exact HB.out))) (fun k_ h_ => h_)) (Kd.R_lt (by (with_reducible repeat (first | apply rA_ | apply rN_ | apply rD_)); exact HO_5.out))) (below_size (by repeat (first | (with_reducible first | exact HB.out | apply bA_ | apply bN_ | apply bD_) | exact HB.out)))); have n3_ := Aside0.mk (below_step (by repeat (first | (with_reducible first | exact HB.out | apply bA_ | apply bN_ | apply bD_) | exact HB.out)) hb); clear HO_0; clear HO_5; clear HB; have HO_0 := n0_; have HO_5 := n1_; have HO525 := n2_; have HB := n3_; clear n0_ n1_ n2_ n3_; clear hb ho18; have p526 : 0 ≤ (x6_1 : Int) := of_decide_eq_true (by first | (with_reducible assumption) | assumption); have q526 : x6_1 < (l1.length : Int) := of_decide_eq_true (by first | (with_reducible assumption) | assumption); obtain ⟨ad526, e526, hx526_0⟩ := Kd.at_int HR1.out x6_1 p526 q526; obtain rfl : ad521 = ad526 := (by injection e526); replace hx526_0 := (HB.out.cell (World.block_lt_of_cell? w _ hx526_0)).trans hx526_0; replace p526 := eq_true p526; replace q526 := eq_true q526) | ((with_reducible refine gate_callee (f := 34) rfl ?_); refine goesL_ (some 39) rfl rfl Try.func34 (by kernel_rfl) rfl #[.int .i64 (wrap64 (Int.tdiv (rd l1 x6_1) 7)), .int .i64 3] rfl (by (try simp only [List.map_toArray, List.map_cons, List.map_nil]); first | done | rfl | (simp only [List.length_drop, List.length_take]; rfl)) ?_; (with_reducible refine (cadencelaw2_within.calls (wrap64 (Int.tdiv (rd l1 x6_1) 7)) 3 t527 _ A10.out).mono ?_); rintro e w' ⟨rfl, ⟨nd, rfl⟩⟩; refine ⟨_, rfl, ?_⟩; obtain ⟨Ao19, co19, eo19⟩ := Kd.R_slice HO525.out; subst eo19; have p528 : 0 ≤ (t527 : Int) := of_decide_eq_true (by first | (with_reducible assumption) | assumption); have q528 : t527 < (y523.length : Int) := of_decide_eq_true (by first | (with_reducible assumption) | assumption); obtain ⟨ad528, e528, hx528_0⟩ := Kd.at_string (Kd.R_reads' HO525.out).2.2 t527 p528 q528; cases e528; replace p528 := eq_true p528; replace q528 := eq_true q528) | ((with_reducible refine gate_builtin (b := .append) (xs := #[.tmp 32, .tmp 42]) rfl ?_); at_builtin; refine Kd.R_append Kd.string (w0 := w) w.heap.size rfl (.tmp 32) (.tmp 42) 31 9 (.string ⟨#[]⟩) 16 rfl Try.underlying31 info9 rfl (by decide) (by omega) u5 x5_1 (rdOf ByteArray.empty y523 t527) [.string (rdOf ByteArray.empty y523 t527)] (fun k_ => (w.heap.size ≤ k_) ∧ some k_ ≠ (.slice (some ad528) y523.length co19 : Value).ownBlock) (fun _ => False) rfl rfl ?aP (fun _ hk => hk.elim) ?aF ?aO ?aB ?aS ?aL ?_; (case aP => exact rfl); (case aB => exact (by repeat (first | (with_reducible first | exact HB.out | apply bA_ | apply bN_ | apply bD_) | exact HB.out))); (case aF => exact (fun k_ hk => ⟨(Nat.le_trans (below_size (by repeat (first | (with_reducible first | exact HB.out | apply bA_ | apply bN_ | apply bD_) | exact HB.out))) hk), Kd.fresh' (Kd.R_lt (by (with_reducible repeat (first | apply rA_ | apply rN_ | apply rD_)); exact HO525.out)) k_ hk⟩)); (case aO => exact (by (with_reducible repeat (first | apply rA_ | apply rN_ | apply rD_)); exact HO_5.out)); (case aS => exact (below_size (by repeat (first | (with_reducible first | exact HB.out | apply bA_ | apply bN_ | apply bD_) | exact HB.out)))); (case aL => have := LMc13.out; omega); intro v530 w20 ho hb hg hat; rw [← Ny529.out] at ho; have n0_ := Aside0.mk (Kd.V_afterv (ok := (fun k_ => (P0_ k_ ∨ w.heap.size ≤ k_) ∧ some k_ ≠ (.slice (some ad528) y523.length co19 : Value).ownBlock)) (by (with_reducible repeat (first | apply vA_ | apply vN_ | apply vD_)); exact Kd.V_mono HO_0.out (fun _ hk => ⟨⟨hk.1.1, hk.2⟩, hk.1.2⟩)) hg hat); have n1_ := Aside0.mk (Kd.R_after (ok := (fun k_ => (w.heap.size ≤ k_))) (by (with_reducible repeat (first | apply rA_ | apply rN_ | apply rD_)); exact Kd.R_mono HO525.out (fun _ hk => ⟨hk.1.1, hk.2⟩)) hg hat); have n2_ := Aside0.mk (hb); have n3_ := Aside0.mk (ho); clear HO_0; clear HO525; clear HB; clear HO_5; have HO_0 := n0_; have HO525 := n1_; have HB := n2_; have HO531 := n3_; clear n0_ n1_ n2_ n3_; clear ho hb hg hat; obtain ⟨Ao21, co21, eo21⟩ := Kd.R_slice HO531.out; subst eo21; have p532 : 0 ≤ (x6_1 : Int) := of_decide_eq_true (by first | (with_reducible assumption) | assumption); have q532 : x6_1 < (y529.length : Int) := of_decide_eq_true (by first | (with_reducible assumption) | assumption); obtain ⟨ad532, e532, hx532_0⟩ := Kd.at_string (Kd.R_reads' HO531.out).2.2 x6_1 p532 q532; cases e532; replace p532 := eq_true p532; replace q532 := eq_true q532) | ((with_reducible refine gate_callee (f := 31) rfl ?_); refine goesL_ (some 50) rfl rfl Try.func31 (by kernel_rfl) rfl #[.slice Ao16 x0_1.length co16, .string (rdOf ByteArray.empty y529 x6_1)] rfl (by (try simp only [List.map_toArray, List.map_cons, List.map_nil]); first | done | rfl | (simp only [List.length_drop, List.length_take]; rfl)) ?_; (with_reducible refine (cadenceref2_Kid.calls kj2 (fun k_ => (((P0_ k_ ∨ w.heap.size ≤ k_) ∧ some k_ ≠ (.slice (some ad528) y523.length co19 : Value).ownBlock) ∧ some k_ ≠ (.slice (some ad532) y529.length co21 : Value).ownBlock)) _ _ x0_1 (rdOf ByteArray.empty y529 x6_1) t533 t536 _ ?side1 A15.out).mono ?_); (case side1 => exact HO_0.out); rintro e w22 ⟨v534, rfl, ho0, hb⟩; refine ⟨_, rfl, ?_⟩; have n0_ := Aside0.mk (Kd.V_below (by (with_reducible repeat (first | apply vA_ | apply vN_ | apply vD_)); exact HO_0.out) hb); have n1_ := Aside0.mk (Kd.R_below (by (with_reducible repeat (first | apply rA_ | apply rN_ | apply rD_)); exact HO525.out) hb); have n2_ := Aside0.mk (Kd.R_below (by (with_reducible repeat (first | apply rA_ | apply rN_ | apply rD_)); exact HO531.out) hb); have n3_ := Aside0.mk (Kd.V_lower (Kd.V_mono (ok' := fun k_ => (P0_ k_ ∨ w.heap.size ≤ k_) ∧ some k_ ≠ (.slice (some ad528) y523.length co19 : Value).ownBlock ∧ some k_ ≠ (.slice (some ad532) y529.length co21 : Value).ownBlock) ho0 (fun k_ hk_ => ⟨Or.elim hk_ (fun hs_ => hs_.1.1) (fun hn_ => (.inr (Nat.le_trans (below_size (by repeat (first | (with_reducible first | exact HB.out | apply bA_ | apply bN_ | apply bD_) | exact HB.out))) hn_))), Or.elim hk_ (fun hs_ => hs_.1.2) (fun hn_ => (Kd.fresh' (Kd.R_lt (by (with_reducible repeat (first | apply rA_ | apply rN_ | apply rD_)); exact HO525.out)) k_ hn_)), Or.elim hk_ (fun hs_ => hs_.2) (fun hn_ => (Kd.fresh' (Kd.R_lt (by (with_reducible repeat (first | apply rA_ | apply rN_ | apply rD_)); exact HO531.out)) k_ hn_))⟩)) (below_size (by repeat (first | (with_reducible first | exact HB.out | apply bA_ | apply bN_ | apply bD_) | exact HB.out)))); have n4_ := Aside0.mk (below_step (by repeat (first | (with_reducible first | exact HB.out | apply bA_ | apply bN_ | apply bD_) | exact HB.out)) hb); clear HO_0; clear HO525; clear HO531; clear HB; have HO_0 := n0_; have HO525 := n1_; have HO531 := n2_; have HO535 := n3_; have HB := n4_; clear n0_ n1_ n2_ n3_ n4_; (try clear hb); (try clear hb2); (try clear hk); (try clear hi); (try clear ho0)))
                          go_roundg kj2
                          case measure => have := HK1.out; have := HJ2.out; omega
                          case rel => exact ⟨(t533), (y529), (wrap64 (x6_1 + 1)), (by first | rfl | (simp; done) | (simp [*]; done)), H', ⟨by have := HK1.out; have := HJ2.out; omega⟩, ⟨by (with_reducible repeat (first | apply vA_ | apply vN_ | apply vD_)); exact Kd.V_mono HO535.out (fun _ hk => ⟨hk.1, hk.2.2⟩)⟩, ⟨by (with_reducible repeat (first | apply rA_ | apply rN_ | apply rD_)); exact Kd.R_mono HO531.out (fun _ hk => hk.1)⟩, ⟨by repeat (first | (with_reducible first | exact HB.out | apply bA_ | apply bN_ | apply bD_) | exact HB.out)⟩⟩
                        · rw [if_neg c14] at H
                          exact absurd H (by simp)
                      · rw [if_neg c13] at H
                        exact absurd H (by simp)
                    · rw [if_neg c12] at H
                      exact absurd H (by simp)
                  · rw [if_neg c11] at H
                    exact absurd H (by simp)
                · rw [if_neg c9] at H
                  have c9b0 : (t522 == (x0_1.length : Int)) = false := beq_eq_false_iff_ne.mpr c9
                  have c9b1 : (t522 != (x0_1.length : Int)) = true := bne_iff_ne.mpr c9
                  by_cases c23 : 0 ≤ t522
                  · rw [if_pos c23] at H
                    have c23b0 : decide (0 ≤ t522) = true := decide_eq_true c23
                    clear c23
                    by_cases c24 : t522 < (x0_1.length : Int)
                    · rw [if_pos c24] at H
                      have c24b0 : decide (t522 < (x0_1.length : Int)) = true := decide_eq_true c24
                      clear c24
                      by_cases c25 : x5_1.length < 8796093022208
                      · rw [if_pos c25] at H
                        have LMc25 := Aside0.mk c25
                        clear c25
                        obtain ⟨y538, hy538⟩ : ∃ y_ : List ByteArray, y_ = (x5_1 ++ [(rd_T45 x0_1 t522).f0]) := ⟨_, rfl⟩
                        replace H : (cadencelaw2_Path.l0 kj2 ((rd_T45 x0_1 t522).f1) l1 y538 (wrap64 (x6_1 + 1))) = some r := by first | (rw [hy538]; with_reducible exact H) | (have H2_ := (Option.bind_some _ _).symm.trans H; rw [hy538]; with_reducible exact H2_) | (have H2_ := (Option.bind_some _ _).symm.trans H; with_reducible exact H2_) | with_reducible exact H | (rw [hy538]; exact H) | exact H
                        have Ny538 := Aside0.mk hy538
                        clear hy538
                        have H' := Aside0.mk H
                        clear H
                        have p521 : 0 ≤ (x6_1 : Int) := of_decide_eq_true (by first | (with_reducible assumption) | assumption)
                        have q521 : x6_1 < (l1.length : Int) := of_decide_eq_true (by first | (with_reducible assumption) | assumption)
                        obtain ⟨ad521, e521, hx521_0⟩ := Kd.at_int HR1.out x6_1 p521 q521
                        cases e521
                        replace hx521_0 := (HB.out.cell (World.block_lt_of_cell? w _ hx521_0)).trans hx521_0
                        replace p521 := eq_true p521
                        replace q521 := eq_true q521
                        obtain ⟨Ao26, co26, eo26⟩ := Kd.V_slice HO_0.out
                        subst eo26
                        go_wp2_with (first | ((with_reducible refine gate_callee (f := 34) rfl ?_); refine goesL_ (some 27) rfl rfl Try.func34 (by kernel_rfl) rfl #[.int .i64 (rd l1 x6_1), .int .i64 (wrap64 ((x0_1.length : Int) + 1))] rfl (by (try simp only [List.map_toArray, List.map_cons, List.map_nil]); first | done | rfl | (simp only [List.length_drop, List.length_take]; rfl)) ?_; (with_reducible refine (cadencelaw2_within.calls (rd l1 x6_1) (wrap64 ((x0_1.length : Int) + 1)) t522 _ A8.out).mono ?_); rintro e w' ⟨rfl, ⟨nd, rfl⟩⟩; refine ⟨_, rfl, ?_⟩; have p537 : 0 ≤ (t522 : Int) := of_decide_eq_true (by first | (with_reducible assumption) | assumption); have q537 : t522 < (x0_1.length : Int) := of_decide_eq_true (by first | (with_reducible assumption) | assumption); obtain ⟨ad537, A537_1, c537_1, e537, hx537_0, hx537_1, hl537_1, hi537_1⟩ := at_T45 (Kd.V_reads' HO_0.out).2.2 t522 p537 q537; cases e537; obtain ⟨ce537, hce537, hMe537, hcc537⟩ := Kd.V_get HO_0.out z45 t522 p537 (by first | exact q537 | exact of_decide_eq_true (by first | (with_reducible assumption) | assumption) | (have e_ := (Kd.V_reads' HO_0.out).1; omega)); obtain ⟨ua537_1, uc537_1, rfl, ul537_1, ge537_1⟩ := k45_openF hMe537; have hv537_1 := hcc537 1 _ rfl; rw [add_field _ _ 1 (by omega)] at hv537_1; replace hv537_1 := Option.some.inj (hv537_1.symm.trans hx537_1); injection hv537_1 with hva_ hvn_ hvc_; rw [hva_] at ge537_1; rw [hvc_] at ul537_1; have HL537_1 := Aside0.mk (show Kd.V k45 45 _ w.heap.size _ _ ((rd_T45 x0_1 t522).f1) from Kd.V_mk ul537_1 ge537_1); clear hva_ hvn_ hvc_ ge537_1 ul537_1; clear hcc537 hce537; have HR537_1 := Aside0.mk hi537_1; have HC537_1 := Aside0.mk hl537_1; clear hi537_1 hl537_1; replace p537 := eq_true p537; replace q537 := eq_true q537) | ((with_reducible refine gate_builtin (b := .append) (xs := #[.tmp 54, .tmp 60]) rfl ?_); at_builtin; refine Kd.R_append Kd.string (w0 := w) w.heap.size rfl (.tmp 54) (.tmp 60) 31 9 (.string ⟨#[]⟩) 16 rfl Try.underlying31 info9 rfl (by decide) (by omega) u5 x5_1 ((rd_T45 x0_1 t522).f0) [.string ((rd_T45 x0_1 t522).f0)] (fun k_ => (w.heap.size ≤ k_)) (fun _ => False) rfl rfl ?aP (fun _ hk => hk.elim) ?aF ?aO ?aB ?aS ?aL ?_; (case aP => exact rfl); (case aB => exact (by repeat (first | (with_reducible first | exact HB.out | apply bA_ | apply bN_ | apply bD_) | exact HB.out))); (case aF => exact (fun k_ hk => (Nat.le_trans (below_size (by repeat (first | (with_reducible first | exact HB.out | apply bA_ | apply bN_ | apply bD_) | exact HB.out))) hk))); (case aO => exact (by (with_reducible repeat (first | apply rA_ | apply rN_ | apply rD_)); exact HO_5.out)); (case aS => exact (below_size (by repeat (first | (with_reducible first | exact HB.out | apply bA_ | apply bN_ | apply bD_) | exact HB.out)))); (case aL => have := LMc25.out; omega); intro v539 w27 ho hb hg hat; rw [← Ny538.out] at ho; have n0_ := Aside0.mk (Kd.V_afterv (ok := (fun k_ => (P0_ k_ ∨ w.heap.size ≤ k_))) (by (with_reducible repeat (first | apply vA_ | apply vN_ | apply vD_)); exact HO_0.out) hg hat); have n1_ := Aside0.mk (Kd.V_afterv (ok := (fun k_ => (P0_ k_ ∨ w.heap.size ≤ k_))) (by (with_reducible repeat (first | apply vA_ | apply vN_ | apply vD_)); exact HL537_1.out) hg hat); have n2_ := Aside0.mk (hb); have n3_ := Aside0.mk (ho); clear HO_0; clear HL537_1; clear HB; clear HO_5; have HO_0 := n0_; have HL537_1 := n1_; have HB := n2_; have HO540 := n3_; clear n0_ n1_ n2_ n3_; clear ho hb hg hat; have p541 : 0 ≤ (t522 : Int) := of_decide_eq_true (by first | (with_reducible assumption) | assumption); have q541 : t522 < (x0_1.length : Int) := of_decide_eq_true (by first | (with_reducible assumption) | assumption); obtain ⟨ad541, A541_1, c541_1, e541, hx541_0, hx541_1, hl541_1, hi541_1⟩ := at_T45 (Kd.V_reads' HO_0.out).2.2 t522 p541 q541; obtain rfl : ad537 = ad541 := (by injection e541); obtain ⟨ce541, hce541, hMe541, hcc541⟩ := Kd.V_get HO_0.out z45 t522 p541 (by first | exact q541 | exact of_decide_eq_true (by first | (with_reducible assumption) | assumption) | (have e_ := (Kd.V_reads' HO_0.out).1; omega)); obtain ⟨ua541_1, uc541_1, rfl, ul541_1, ge541_1⟩ := k45_openF hMe541; have hv541_1 := hcc541 1 _ rfl; rw [add_field _ _ 1 (by omega)] at hv541_1; replace hv541_1 := Option.some.inj (hv541_1.symm.trans hx541_1); injection hv541_1 with hva_ hvn_ hvc_; rw [hva_] at ge541_1; rw [hvc_] at ul541_1; have HL541_1 := Aside0.mk (show Kd.V k45 45 _ w.heap.size _ _ ((rd_T45 x0_1 t522).f1) from Kd.V_mk ul541_1 ge541_1); clear hva_ hvn_ hvc_ ge541_1 ul541_1; clear hcc541 hce541; have HR541_1 := Aside0.mk hi541_1; have HC541_1 := Aside0.mk hl541_1; clear hi541_1 hl541_1; replace p541 := eq_true p541; replace q541 := eq_true q541))
                        go_roundg kj2
                        case measure => have := HK1.out; have := HJ2.out; omega
                        case rel => exact ⟨((rd_T45 x0_1 t522).f1), (y538), (wrap64 (x6_1 + 1)), (by first | rfl | (simp; done) | (simp [*]; done)), H', ⟨by have := HK1.out; have := HJ2.out; omega⟩, ⟨by (with_reducible repeat (first | apply vA_ | apply vN_ | apply vD_)); exact HL541_1.out⟩, ⟨by (with_reducible repeat (first | apply rA_ | apply rN_ | apply rD_)); exact HO540.out⟩, ⟨by repeat (first | (with_reducible first | exact HB.out | apply bA_ | apply bN_ | apply bD_) | exact HB.out)⟩⟩
                      · rw [if_neg c25] at H
                        exact absurd H (by simp)
                    · rw [if_neg c24] at H
                      exact absurd H (by simp)
                  · rw [if_neg c23] at H
                    exact absurd H (by simp)
              · rw [if_neg c7] at H
                exact absurd H (by simp)
            · rw [if_neg c6] at H
              exact absurd H (by simp)
          · replace c5 := Bool.eq_false_iff.mpr c5
            subst c5
            have H1 : (some x5_1) = some r := by rw [if_neg (show ¬ (false = true) by decide)] at H; exact H
            clear H
            have H := H1
            clear H1
            obtain rfl := Option.some.inj H
            go_wp2
            go_ret
            exact ⟨_, by first | rfl | (simp [errW_none, errW_some] <;> rfl) | (simp [*, errW_none, errW_some] <;> rfl), by (with_reducible repeat (first | apply rA_ | apply rN_ | apply rD_)); exact HO_5.out, by repeat (first | (with_reducible first | exact HB.out | apply bA_ | apply bN_ | apply bD_) | exact HB.out)⟩

end Go.Proofs.Ytbhgocpenbibgaa.PX
