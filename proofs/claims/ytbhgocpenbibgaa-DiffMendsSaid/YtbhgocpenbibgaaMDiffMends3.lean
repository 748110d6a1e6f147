/- Texts on the way to 'DiffMends', one behind the other (part 3). -/
import Derived.Test.YtbhgocpenbibgaaMDiffMends1
import Derived.Test.YtbhgocpenbibgaaMDiffMends2
import Derived.Deep.Slices
import Derived.SizedLaws
import Derived.ChangeSame
import Derived.ChangeShapes
import Derived.ChangeAt
import Derived.WideShapes
/- Paths at which two trees differ: the program's and the reference's come to one row. -/
set_option linter.unusedVariables false
namespace Go.Proofs.Ytbhgocpenbibgaa.PX
open Go.RowKit Go.Proofs.YtbhgocpenbibgaaW.PrintWords Go.Proofs.YtbhgocpenbibgaaW.PrintLast Go.Proofs.YtbhgocpenbibgaaW.PrintMore Go.Proofs.Ytbhgocpenbibgaa
def getR : Tr → List ByteArray → Tr × Bool
  | t, [] => (t, true)
  | t, n :: p => match kid t n with
    | some x => getR x p
    | none => ([], false)
theorem Ok.kidle {W d : Nat} {t x : Tr} {n : ByteArray} (h : Ok W d t) (hk : PX.kid t n = some x) : Ok W d x := by
  cases d with
  | zero => rw [show t = [] from h] at hk; cases hk
  | succ d => exact (h.kid hk).succ
theorem find_eq {W d : Nat} (hW : W ≤ 1000000) {t : Tr} (n : ByteArray) (h : Ok W d t) : tree_find.f t n = some (((pos t n : Nat) : Int), hasAt t n) := by
  unfold tree_find.f
  have := h.length
  rw [if_pos ⟨by omega, h.sorted⟩]
theorem get_ev {W : Nat} (hW : W ≤ 1000000) {d : Nat} {t : Tr} (p : List ByteArray) (ht : Ok W d t) (hp : p.length ≤ 1000000) : Ev (fun k => tree_Get.f k t p) (getR t p) := by
  have loop : ∀ (m i : Nat) (t : Tr), i + m = p.length → Ok W d t → Ev (fun k => tree_Get.l0 k t p (p.length : Int) (i : Int)) (getR t (p.drop i)) := by
    intro m
    induction m with
    | zero =>
      intro i t hi ht
      rw [List.drop_eq_nil_of_le (by omega)]
      obtain ⟨K, hK⟩ := own_ev hW ht
      refine ⟨K + 1, fun k hk => ?_⟩
      obtain ⟨k, rfl⟩ : ∃ m, k = m + 1 := ⟨k - 1, by omega⟩
      replace hK : tree_own.f k t = some t := hK k (by omega)
      show tree_Get.l0 (k + 1) t p (p.length : Int) (i : Int) = _
      simp only [tree_Get.l0]
      rw [if_neg (by omega), hK, Option.bind_some]
      rfl
    | succ m ih =>
      intro i t hi ht
      have hil : i < p.length := by omega
      rw [List.drop_eq_getElem_cons hil]
      have hf := find_eq hW p[i] ht
      cases e : kid t p[i] with
      | none =>
        have hh : hasAt t p[i] = false := by rw [hasAt_kid, e]; rfl
        refine Ev.step (f := fun _ => some ([], false)) (fun k => ?_) (by rw [getR, e]; exact Ev.now _)
        simp only [tree_Get.l0]
        rw [if_pos (by omega), if_pos (by omega), if_pos (by omega), rdOf_nat hil, hf, Option.bind_some, hh, if_neg Bool.false_ne_true]
      | some x =>
        have hh : hasAt t p[i] = true := by rw [hasAt_kid, e]; rfl
        obtain ⟨h1, _, h3⟩ := kid_pos t p[i] x e
        refine Ev.step (f := fun k => tree_Get.l0 k x p (p.length : Int) ((i + 1 : Nat) : Int)) (fun k => ?_) (by rw [getR, e]; exact ih (i + 1) x (by omega) (ht.kidle e))
        simp only [tree_Get.l0]
        rw [if_pos (by omega), if_pos (by omega), if_pos (by omega), rdOf_nat hil, hf, Option.bind_some, hh, if_pos rfl, if_pos (by omega), if_pos (by omega), rdT_nat h1, h3, wrap_succ (by omega)]
  exact loop p.length 0 t (by omega) ht
theorem getR_one (t : Tr) (n : ByteArray) : getR t [n] = ((kid t n).getD [], (kid t n).isSome) := by
  rw [getR]
  cases kid t n <;> rfl
/-! ### The row of paths -/
def stepP (rec : Tr → Tr → List (List ByteArray)) (a b : Tr) (n : ByteArray) : List (List ByteArray) :=
  match kid a n, kid b n with
  | some x, some y => (rec x y).map (n :: ·)
  | _, _ => [[n]]
def pathsM : Nat → Tr → Tr → List (List ByteArray)
  | 0, _, _ => []
  | d + 1, a, b => (namesOf [a, b]).flatMap (stepP (pathsM d) a b)
theorem names2_length {W d : Nat} {a b : Tr} (ha : Ok W d a) (hb : Ok W d b) : ([a, b].flatMap nms).length ≤ 2 * W := by
  have h1 := ha.length
  have h2 := hb.length
  simp [nms]
  omega
theorem stepP_length {W d : Nat} (hW : 0 < W) (ih : ∀ a b, Ok W d a → Ok W d b → (pathsM d a b).length ≤ (2 * W) ^ d) {a b : Tr} (ha : Ok W (d + 1) a) (hb : Ok W (d + 1) b) (n : ByteArray) : (stepP (pathsM d) a b n).length ≤ (2 * W) ^ d := by
  have h1 : 1 ≤ (2 * W) ^ d := Nat.one_le_pow _ _ (by omega)
  unfold stepP
  split
  · rename_i x y hx hy
    rw [List.length_map]
    exact ih x y (ha.kid hx) (hb.kid hy)
  · simpa using h1
theorem flatMap_length_le {α β : Type} (f : α → List β) (B : Nat) : ∀ l : List α, (∀ x ∈ l, (f x).length ≤ B) → (l.flatMap f).length ≤ l.length * B
  | [], _ => by simp
  | x :: l, h => by
    have h1 := h x List.mem_cons_self
    have h2 := flatMap_length_le f B l (fun y hy => h y (List.mem_cons_of_mem _ hy))
    rw [List.flatMap_cons, List.length_append, List.length_cons, Nat.add_mul]
    omega
theorem pathsM_length {W : Nat} (hW : 0 < W) : ∀ {d : Nat} (a b : Tr), Ok W d a → Ok W d b → (pathsM d a b).length ≤ (2 * W) ^ d
  | 0, _, _, _, _ => by simp [pathsM]
  | d + 1, a, b, ha, hb => by
    have h1 := flatMap_length_le (stepP (pathsM d) a b) ((2 * W) ^ d) (namesOf [a, b]) (fun n _ => stepP_length hW (fun a b => pathsM_length hW a b) ha hb n)
    have h2 := namesOf_length [a, b]
    have h3 := names2_length ha hb
    rw [pathsM, Nat.pow_succ, Nat.mul_comm ((2 * W) ^ d)]
    exact Nat.le_trans h1 (Nat.mul_le_mul_right _ (by omega))
theorem mem_namesOf {ts : List Tr} {n : ByteArray} : n ∈ namesOf ts ↔ ∃ t ∈ ts, tl n ∈ nms t := by
  unfold namesOf
  rw [List.mem_map]
  constructor
  · rintro ⟨s, hs, rfl⟩
    rw [tl_ba]
    exact List.mem_flatMap.1 (ofL_mem.1 hs)
  · intro h
    exact ⟨tl n, ofL_mem.2 (List.mem_flatMap.2 h), ba_tl n⟩
theorem mem_nms {t : Tr} (ht : Sorted t) {n : ByteArray} : tl n ∈ nms t ↔ (kid t n).isSome = true := by
  unfold nms
  rw [List.mem_map]
  constructor
  · rintro ⟨x, hx, h⟩
    have h1 := kid_mem ht hx
    rw [tl_inj h] at h1
    rw [h1]
    rfl
  · intro h
    obtain ⟨x, hx⟩ := Option.isSome_iff_exists.1 h
    exact ⟨_, mem_kid hx, rfl⟩
theorem mem_names2 {a b : Tr} (ha : Sorted a) (hb : Sorted b) {n : ByteArray} : n ∈ namesOf [a, b] ↔ (kid a n).isSome = true ∨ (kid b n).isSome = true := by
  rw [mem_namesOf, ← mem_nms ha, ← mem_nms hb]
  simp
theorem take_flat {α : Type} (f : ByteArray → List α) (l : List ByteArray) (i : Nat) (h : i < l.length) : (l.take (i + 1)).flatMap f = (l.take i).flatMap f ++ f l[i] := by
  rw [List.take_succ_eq_append_getElem h, List.flatMap_append]
  simp
theorem take_flat_le {α : Type} (f : ByteArray → List α) (l : List ByteArray) (i : Nat) : ((l.take i).flatMap f).length ≤ (l.flatMap f).length := by
  have : l.flatMap f = (l.take i).flatMap f ++ (l.drop i).flatMap f := by rw [← List.flatMap_append, List.take_append_drop]
  rw [this, List.length_append]
  omega
/-- How long the paths of two trees so deep are. -/
theorem pathsM_deep : ∀ {d : Nat} (a b : Tr) {p : List ByteArray}, p ∈ pathsM d a b → p.length ≤ d
  | 0, _, _, p, h => by simp [pathsM] at h
  | d + 1, a, b, p, h => by
    rw [pathsM, List.mem_flatMap] at h
    obtain ⟨n, _, h⟩ := h
    unfold stepP at h
    split at h
    · obtain ⟨q, hq, rfl⟩ := List.mem_map.1 h
      have := pathsM_deep _ _ hq
      simpa using this
    · obtain rfl := List.mem_singleton.1 h
      simp
theorem paths_ev {W : Nat} (hW : W ≤ 400000) (hW0 : 0 < W) : ∀ {d : Nat} {a b : Tr}, d ≤ 1000 → (2 * W) ^ d ≤ 1000000000000 → Ok W d a → Ok W d b → Ev (fun k => diff_Paths.f k a b) (pathsM d a b) := by
  intro d
  induction d with
  | zero =>
    intro a b _ _ ha hb
    obtain ⟨K, hK⟩ := treeNames_ev [a, b] (by simp) (by rw [show a = [] from ha, show b = [] from hb]; simp [nms])
    rw [show a = [] from ha, show b = [] from hb] at hK ⊢
    have hn : namesOf [([] : Tr), []] = [] := by
      have := namesOf_length [([] : Tr), []]
      exact List.eq_nil_of_length_eq_zero (by simpa [nms] using this)
    obtain ⟨K2, hK2⟩ := joined29_ev [([] : List (List ByteArray))] (by simp) (by simp)
    refine ⟨K + K2 + 2, fun k hk => ?_⟩
    obtain ⟨k, rfl⟩ : ∃ m, k = m + 2 := ⟨k - 2, by omega⟩
    show diff_Paths.f (k + 1 + 1) [] [] = some []
    simp only [diff_Paths.f]
    have h1 : tree_Names.f (k + 1) [([] : Tr), []] = some (namesOf [([] : Tr), []]) := hK (k + 1) (by omega)
    have h2 : diff_joined_string_29.f k [([] : List (List ByteArray))] = some [([] : List (List ByteArray))].flatten := hK2 k (by omega)
    rw [h1, Option.bind_some, hn]
    simp only [diff_Paths.l0]
    rw [if_neg (by simp), h2, Option.bind_some]
    rfl
  | succ d ih =>
    intro a b hd hB ha hb
    have hBd : (2 * W) ^ d ≤ 1000000000000 := Nat.le_trans (Nat.pow_le_pow_right (by omega) (by omega)) hB
    have hn2 := names2_length ha hb
    have hnm := treeNames_ev [a, b] (by simp) (by omega)
    have hlen := pathsM_length hW0 (d := d + 1) a b ha hb
    have hnl := namesOf_length [a, b]
    have hstep := fun n => stepP_length hW0 (fun a b => pathsM_length hW0 a b) ha hb n
    have hmem := fun n (h : n ∈ namesOf [a, b]) => (mem_names2 ha.sorted hb.sorted).1 h
    rw [pathsM] at hlen ⊢
    refine Ev.step (f := fun k => (tree_Names.f k [a, b]).bind fun t => diff_Paths.l0 k a b [] t (t.length : Int) 0) (fun k => by simp only [diff_Paths.f]) (Ev.bind hnm ?_)
    generalize namesOf [a, b] = N at hlen hnl hmem ⊢
    generalize hS : stepP (pathsM d) a b = S at hlen hstep ⊢
    have inner : ∀ (i : Nat) (hi : i < N.length) (q : List (List ByteArray)), S N[i] = q.map (N[i] :: ·) → q.length ≤ 1000000000000 → (∀ p ∈ q, p.length ≤ 1000) → Ev (fun k => diff_Paths.l0 k a b ((N.take (i + 1)).flatMap S) N (N.length : Int) ((i + 1 : Nat) : Int)) (N.flatMap S) →
        ∀ (m j : Nat), j + m = q.length → Ev (fun k => diff_Paths.l1 k a b ((N.take i).flatMap S ++ (q.take j).map (N[i] :: ·)) N[i] N (N.length : Int) (i : Int) q (q.length : Int) (j : Int)) (N.flatMap S) := by
      intro i hi q hq hql hqp h0 m
      have hle := take_flat_le S N (i + 1)
      have hnx := take_flat S N i hi
      rw [hnx, List.length_append, hq, List.length_map] at hle
      induction m with
      | zero =>
        intro j hj
        refine Ev.step (f := fun k => diff_Paths.l0 k a b ((N.take (i + 1)).flatMap S) N (N.length : Int) ((i + 1 : Nat) : Int)) (fun k => ?_) h0
        simp only [diff_Paths.l1]
        rw [if_neg (by omega), wrap_succ (by omega), List.take_of_length_le (l := q) (by omega), hnx, hq]
      | succ m ihm =>
        intro j hj
        have hjl : j < q.length := by omega
        have hqj := hqp q[j] (List.getElem_mem hjl)
        refine Ev.step (f := fun k => (diff_joined_string_28.f k [[N[i]], q[j]]).bind fun t => diff_Paths.l1 k a b ((N.take i).flatMap S ++ (q.take j).map (N[i] :: ·) ++ [t]) N[i] N (N.length : Int) (i : Int) q (q.length : Int) ((j + 1 : Nat) : Int)) (fun k => ?_) (Ev.bind (joined28_ev [[N[i]], q[j]] (by simp; omega) (by simp)) ?_)
        · simp only [diff_Paths.l1]
          rw [if_pos (by omega), if_pos (by omega), if_pos (by omega), rdL_s hjl, wrap_succ (by omega)]
          congr 1
          funext t
          rw [if_pos (by rw [List.length_append, List.length_map, List.length_take]; omega)]
        · have := ihm (j + 1) (by omega)
          rw [List.take_succ_eq_append_getElem hjl, List.map_append, ← List.append_assoc] at this
          simpa using this
    have outer : ∀ (m i : Nat), i + m = N.length → Ev (fun k => diff_Paths.l0 k a b ((N.take i).flatMap S) N (N.length : Int) (i : Int)) (N.flatMap S) := by
      intro m
      induction m with
      | zero =>
        intro i hi
        rw [List.take_of_length_le (by omega)]
        obtain ⟨K, hK⟩ := joined29_ev [N.flatMap S] (by simp only [List.flatten_cons, List.flatten_nil, List.append_nil]; omega) (by simp)
        refine ⟨K + 1, fun k hk => ?_⟩
        obtain ⟨k, rfl⟩ : ∃ m, k = m + 1 := ⟨k - 1, by omega⟩
        replace hK : diff_joined_string_29.f k [N.flatMap S] = some [N.flatMap S].flatten := hK k (by omega)
        show diff_Paths.l0 (k + 1) a b (N.flatMap S) N (N.length : Int) (i : Int) = some (N.flatMap S)
        simp only [diff_Paths.l0]
        rw [if_neg (by omega), hK, Option.bind_some]
        simp
      | succ m ihm =>
        intro i hi
        have hil : i < N.length := by omega
        have hle := take_flat_le S N i
        have h0 := ihm (i + 1) (by omega)
        have ga := get_ev (by omega) [N[i]] ha (by simp)
        have gb := get_ev (by omega) [N[i]] hb (by simp)
        rw [getR_one] at ga gb
        refine Ev.step (f := fun k => (tree_Get.f k a [N[i]]).bind fun u => (tree_Get.f k b [N[i]]).bind fun v => if u.2 = true then diff_Paths.j1 k a b ((N.take i).flatMap S) N[i] u.1 v.1 N (N.length : Int) (i : Int) (!v.2) else diff_Paths.j1 k a b ((N.take i).flatMap S) N[i] u.1 v.1 N (N.length : Int) (i : Int) true) (fun k => ?_) (Ev.bind ga (Ev.bind gb ?_))
        · simp only [diff_Paths.l0]
          rw [if_pos (by omega), if_pos (by omega), if_pos (by omega), rdOf_nat hil]
        · have one : ∀ (c : Bool) (x y : Tr), S N[i] = [[N[i]]] → c = true → Ev (fun k => diff_Paths.j1 k a b ((N.take i).flatMap S) N[i] x y N (N.length : Int) (i : Int) c) (N.flatMap S) := by
            intro c x y hS1 hc
            subst hc
            have hnx := take_flat S N i hil
            rw [hS1] at hnx
            rw [hnx] at h0
            refine Ev.step (f := fun k => diff_Paths.l0 k a b ((N.take i).flatMap S ++ [[N[i]]]) N (N.length : Int) ((i + 1 : Nat) : Int)) (fun k => ?_) h0
            simp only [diff_Paths.j1]
            rw [if_pos trivial, if_pos (by omega), wrap_succ (by omega)]
          cases ea : kid a N[i] with
          | none =>
            have hS1 : S N[i] = [[N[i]]] := by rw [← hS]; unfold stepP; rw [ea]
            simp only [Option.isSome_none, Bool.false_eq_true, if_false]
            exact one _ _ _ hS1 rfl
          | some x =>
            simp only [Option.isSome_some, if_true, Option.getD_some]
            cases eb : kid b N[i] with
            | none =>
              have hS1 : S N[i] = [[N[i]]] := by rw [← hS]; unfold stepP; rw [ea, eb]
              exact one _ _ _ hS1 rfl
            | some y =>
              have hS2 : S N[i] = (pathsM d x y).map (N[i] :: ·) := by rw [← hS]; unfold stepP; rw [ea, eb]
              have hx := ha.kid ea
              have hy := hb.kid eb
              have hpl := pathsM_length hW0 x y hx hy
              simp only [Option.isSome_some, Option.getD_some, Bool.not_true]
              refine Ev.step (f := fun k => (diff_Paths.f k x y).bind fun t => diff_Paths.l1 k a b ((N.take i).flatMap S) N[i] N (N.length : Int) (i : Int) t (t.length : Int) 0) (fun k => ?_) (Ev.bind (ih (by omega) hBd hx hy) ?_)
              · simp only [diff_Paths.j1]
                rw [if_neg Bool.false_ne_true]
              · have := inner i hil (pathsM d x y) hS2 (by omega) (fun p hp => by have := pathsM_deep _ _ hp; omega) h0 (pathsM d x y).length 0 (by omega)
                simpa using this
    have := outer N.length 0 (by omega)
    simpa using this
theorem refPaths_ev {W : Nat} (hW : W ≤ 400000) (hW0 : 0 < W) : ∀ {d : Nat} {a b : Tr}, d ≤ 1000 → (2 * W) ^ d ≤ 1000000000000 → Ok W d a → Ok W d b → Ev (fun k => cadenceref13_Paths.f k a b) (pathsM d a b) := by
  intro d
  induction d with
  | zero =>
    intro a b _ _ ha hb
    obtain ⟨K, hK⟩ := refNames_ev [a, b] (by simp) (by rw [show a = [] from ha, show b = [] from hb]; simp [nms])
    rw [show a = [] from ha, show b = [] from hb] at hK ⊢
    have hn : namesOf [([] : Tr), []] = [] := by
      have := namesOf_length [([] : Tr), []]
      exact List.eq_nil_of_length_eq_zero (by simpa [nms] using this)
    refine ⟨K + 2, fun k hk => ?_⟩
    obtain ⟨k, rfl⟩ : ∃ m, k = m + 2 := ⟨k - 2, by omega⟩
    show cadenceref13_Paths.f (k + 1 + 1) [] [] = some []
    simp only [cadenceref13_Paths.f]
    have h1 : cadenceref2_Names.f (k + 1) [([] : Tr), []] = some (namesOf [([] : Tr), []]) := hK (k + 1) (by omega)
    rw [h1, Option.bind_some, hn]
    simp only [cadenceref13_Paths.l0]
    rw [if_neg (by simp)]
  | succ d ih =>
    intro a b hd hB ha hb
    have hBd : (2 * W) ^ d ≤ 1000000000000 := Nat.le_trans (Nat.pow_le_pow_right (by omega) (by omega)) hB
    have hn2 := names2_length ha hb
    have hnm := refNames_ev [a, b] (by simp) (by omega)
    have hlen := pathsM_length hW0 (d := d + 1) a b ha hb
    have hnl := namesOf_length [a, b]
    have hmem := fun n (h : n ∈ namesOf [a, b]) => (mem_names2 ha.sorted hb.sorted).1 h
    have hal := ha.length
    have hbl := hb.length
    rw [pathsM] at hlen ⊢
    refine Ev.step (f := fun k => (cadenceref2_Names.f k [a, b]).bind fun t => cadenceref13_Paths.l0 k a b [] t 0) (fun k => by simp only [cadenceref13_Paths.f]) (Ev.bind hnm ?_)
    generalize namesOf [a, b] = N at hlen hnl hmem ⊢
    generalize hS : stepP (pathsM d) a b = S at hlen ⊢
    have inner : ∀ (i : Nat) (hi : i < N.length) (q : List (List ByteArray)), S N[i] = q.map (N[i] :: ·) → q.length ≤ 1000000000000 → (∀ p ∈ q, p.length ≤ 1000) → Ev (fun k => cadenceref13_Paths.l0 k a b ((N.take (i + 1)).flatMap S) N ((i + 1 : Nat) : Int)) (N.flatMap S) →
        ∀ (m j : Nat), j + m = q.length → Ev (fun k => cadenceref13_Paths.l1 k a b ((N.take i).flatMap S ++ (q.take j).map (N[i] :: ·)) N (i : Int) q (j : Int)) (N.flatMap S) := by
      intro i hi q hq hql hqp h0 m
      have hle := take_flat_le S N (i + 1)
      have hnx := take_flat S N i hi
      rw [hnx, List.length_append, hq, List.length_map] at hle
      induction m with
      | zero =>
        intro j hj
        refine Ev.step (f := fun k => cadenceref13_Paths.l0 k a b ((N.take (i + 1)).flatMap S) N ((i + 1 : Nat) : Int)) (fun k => ?_) h0
        simp only [cadenceref13_Paths.l1]
        rw [if_neg (by omega), wrap_succ (by omega), List.take_of_length_le (l := q) (by omega), hnx, hq]
      | succ m ihm =>
        intro j hj
        have hjl : j < q.length := by omega
        have hqj := hqp q[j] (List.getElem_mem hjl)
        refine Ev.step (f := fun k => cadenceref13_Paths.l1 k a b ((N.take i).flatMap S ++ (q.take (j + 1)).map (N[i] :: ·)) N (i : Int) q ((j + 1 : Nat) : Int)) (fun k => ?_) (ihm (j + 1) (by omega))
        simp only [cadenceref13_Paths.l1]
        rw [if_pos (by omega), if_pos (by omega), if_pos (by omega), rdOf_nat hi, Option.bind_some, if_pos (by omega), rdL_s hjl, if_pos (by simp; omega), if_pos (by rw [List.length_append, List.length_map, List.length_take]; omega), wrap_succ (by omega), List.take_succ_eq_append_getElem hjl, List.map_append, ← List.append_assoc]
        rfl
    have outer : ∀ (m i : Nat), i + m = N.length → Ev (fun k => cadenceref13_Paths.l0 k a b ((N.take i).flatMap S) N (i : Int)) (N.flatMap S) := by
      intro m
      induction m with
      | zero =>
        intro i hi
        refine Ev.step (f := fun _ => some (N.flatMap S)) (fun k => ?_) (Ev.now _)
        simp only [cadenceref13_Paths.l0]
        rw [if_neg (by omega), List.take_of_length_le (by omega)]
      | succ m ihm =>
        intro i hi
        have hil : i < N.length := by omega
        have hle := take_flat_le S N i
        have h0 := ihm (i + 1) (by omega)
        have ga := kid_ev a N[i] (by omega)
        have gb := kid_ev b N[i] (by omega)
        refine Ev.step (f := fun k => (cadenceref2_Kid.f k a N[i]).bind fun u => (cadenceref2_Kid.f k b N[i]).bind fun v => if (u.2 != v.2) = true then (if ((N.take i).flatMap S).length < 5864062014805 then cadenceref13_Paths.l0 k a b ((N.take i).flatMap S ++ [[N[i]]]) N ((i + 1 : Nat) : Int) else none) else (cadenceref13_Paths.f k u.1 v.1).bind fun t => cadenceref13_Paths.l1 k a b ((N.take i).flatMap S) N (i : Int) t 0) (fun k => ?_) (Ev.bind ga (Ev.bind gb ?_))
        · simp only [cadenceref13_Paths.l0]
          rw [if_pos (by omega), if_pos (by omega), rdOf_nat hil, wrap_succ (by omega)]
        · have one : S N[i] = [[N[i]]] → Ev (fun k => if ((N.take i).flatMap S).length < 5864062014805 then cadenceref13_Paths.l0 k a b ((N.take i).flatMap S ++ [[N[i]]]) N ((i + 1 : Nat) : Int) else none) (N.flatMap S) := by
            intro hS1
            have hnx := take_flat S N i hil
            rw [hS1] at hnx
            rw [hnx] at h0
            refine Ev.congr (fun k => ?_) h0
            rw [if_pos (by omega)]
          cases ea : kid a N[i] with
          | none =>
            cases eb : kid b N[i] with
            | none =>
              have := hmem _ (List.getElem_mem hil)
              rw [ea, eb] at this
              simp at this
            | some y =>
              have hS1 : S N[i] = [[N[i]]] := by rw [← hS]; unfold stepP; rw [ea]
              exact Ev.congr (fun k => by rw [if_pos (by rfl)]) (one hS1)
          | some x =>
            cases eb : kid b N[i] with
            | none =>
              have hS1 : S N[i] = [[N[i]]] := by rw [← hS]; unfold stepP; rw [ea, eb]
              exact Ev.congr (fun k => by rw [if_pos (by rfl)]) (one hS1)
            | some y =>
              have hS2 : S N[i] = (pathsM d x y).map (N[i] :: ·) := by rw [← hS]; unfold stepP; rw [ea, eb]
              have hx := ha.kid ea
              have hy := hb.kid eb
              have hpl := pathsM_length hW0 x y hx hy
              refine Ev.congr (f := fun k => (cadenceref13_Paths.f k x y).bind fun t => cadenceref13_Paths.l1 k a b ((N.take i).flatMap S) N (i : Int) t 0) (fun k => by rw [if_neg (by simp)]; rfl) (Ev.bind (ih (by omega) hBd hx hy) ?_)
              have := inner i hil (pathsM d x y) hS2 (by omega) (fun p hp => by have := pathsM_deep _ _ hp; omega) h0 (pathsM d x y).length 0 (by omega)
              simpa using this
    have := outer N.length 0 (by omega)
    simpa using this
theorem namesOf_swap (a b : Tr) : namesOf [a, b] = namesOf [b, a] := by
  unfold namesOf
  congr 1
  refine ofL_eq.2 fun s => ?_
  simp only [List.flatMap_cons, List.flatMap_nil, List.append_nil, List.mem_append]
  exact Or.comm
theorem pathsM_swap : ∀ {d : Nat} (a b : Tr), pathsM d a b = pathsM d b a
  | 0, _, _ => rfl
  | d + 1, a, b => by
    rw [pathsM, pathsM, namesOf_swap]
    congr 1
    funext n
    unfold stepP
    cases kid a n <;> cases kid b n <;> simp [pathsM_swap]
end Go.Proofs.Ytbhgocpenbibgaa.PX
-- written by wip/tools/hybrid.py (over the kit's print.py, with functions proved by hand beside it) for this claim
namespace Go.Proofs.Ytbhgocpenbibgaa.PX
open Go.RowKit Go.Proofs.YtbhgocpenbibgaaW.PrintWords Go.Proofs.YtbhgocpenbibgaaW.PrintLast Go.Proofs.YtbhgocpenbibgaaW.PrintMore
attribute [local go_sem] max2_int min2_int max_two min_two max_three min_three max_four min_four   -- for this text's walks alone
set_option linter.unusedVariables false
set_option linter.unusedSimpArgs false

/-! ### cadenceref2_Get: function 14 -/
def cadenceref2_Get.l0 : Nat → List (S45) → List ByteArray → Int → Option ((List (S45)) × Bool)
  | 0, _, _, _ => none
  | k + 1, x0, x1, x6 => if x6 < (x1.length : Int) then (if 0 ≤ x6 then ((cadenceref2_Kid.f k x0 (rdOf ByteArray.empty x1 x6)).bind fun bt396 => (if bt396.2 = true then (cadenceref2_Get.l0 k bt396.1 x1 (wrap64 (x6 + 1))) else (some (([] : List (S45)), false)))) else (none)) else (some (x0, true))
def cadenceref2_Get.f (k : Nat) (l0 : List (S45)) (l1 : List ByteArray) : Option ((List (S45)) × Bool) := cadenceref2_Get.l0 k l0 l1 0
theorem cadenceref2_Get.mono_l : ∀ k, (∀ y0 y1 y2, LeO (cadenceref2_Get.l0 k y0 y1 y2) (cadenceref2_Get.l0 (k + 1) y0 y1 y2))
  | 0 => fun _ _ _ r h => by simp [cadenceref2_Get.l0] at h
  | k + 1 => by
    have ih0 := cadenceref2_Get.mono_l k
    · intro y0 y1 y2
      unfold cadenceref2_Get.l0
      repeat' first
      | (with_reducible exact ih0 _ _ _)
      | (with_reducible exact cadenceref2_Kid.mono _ _ _)
      | (with_reducible exact LeO.refl _)
      | (with_reducible exact LeO.none _)
      | (with_reducible refine LeO.ite ?_ ?_)
      | (with_reducible refine LeO.bind ?_ (fun _ => ?_))
      | exact ih0 _ _ _
      | exact cadenceref2_Kid.mono _ _ _
      | exact LeO.none _
      | refine LeO.ite ?_ ?_
      | refine LeO.bind ?_ (fun _ => ?_)
theorem cadenceref2_Get.mono : ∀ a0 a1 k, LeO (cadenceref2_Get.f k a0 a1) (cadenceref2_Get.f (k + 1) a0 a1) := by
  intro a0 a1 k
  have ih0 := cadenceref2_Get.mono_l k
  unfold cadenceref2_Get.f
  repeat' first
      | (with_reducible exact ih0 _ _ _)
      | (with_reducible exact cadenceref2_Kid.mono _ _ _)
      | (with_reducible exact LeO.refl _)
      | (with_reducible exact LeO.none _)
      | (with_reducible refine LeO.ite ?_ ?_)
      | (with_reducible refine LeO.bind ?_ (fun _ => ?_))
      | exact ih0 _ _ _
      | exact cadenceref2_Kid.mono _ _ _
      | exact LeO.none _
      | refine LeO.ite ?_ ?_
      | refine LeO.bind ?_ (fun _ => ?_)
set_option maxHeartbeats 8000000 in
set_option maxRecDepth 100000 in
theorem cadenceref2_Get.calls (k : Nat) (P0_ : Nat → Prop) (A0 : Option Addr) (c0 : Nat) (l0 : List (S45)) (A1 : Option Addr) (c1 : Nat) (l1 : List ByteArray) (r1 : List (S45)) (r2 : Bool) (w : World) (hs0 : Kd.V k45 45 w w.heap.size (fun k_ => P0_ k_) (.slice A0 l0.length c0) l0) (hr1 : Kd.C Kd.string w A1 l1.length l1) (hc1 : l1.length ≤ c1) (h : cadenceref2_Get.f k l0 l1 = some (r1, r2)) :
    Calls Try.prog 14 #[.slice A0 l0.length c0, .slice A1 l1.length c1] w fun e w' => ∃ v0_ : Value, e = .returned (.tuple #[v0_, .bool r2]) ∧ Kd.V k45 45 w' w.heap.size (fun k_ => (P0_ k_ ∨ w.heap.size ≤ k_)) v0_ r1 ∧ Below w.heap.size w w' := by
  have HO0 := Aside0.mk (show Kd.V k45 45 w w.heap.size (fun k_ => (P0_ k_ ∨ w.heap.size ≤ k_)) (.slice A0 l0.length c0) l0 from Kd.V_mono hs0 (fun k_ hk => .inl hk))
  have HR1 := Aside0.mk hr1
  have HC1 := Aside0.mk hc1
  clear hr1 hc1
  have HB := Aside0.mk (Below.refl w.heap.size w)
  have H : (cadenceref2_Get.l0 k l0 l1 0) = some (r1, r2) := h
  clear h
  have H' := Aside0.mk H
  clear H
  go_enter Try.func14, Try.ntmps14
  go_wp2
  go_loopg [0, 6] k (fun kq v0 v6 w' => ∃ (x0_1 : List (S45)) (x6_1 : Int), v6 = .int .i64 x6_1 ∧ Aside0 (cadenceref2_Get.l0 kq x0_1 l1 x6_1 = some (r1, r2)) ∧ Aside0 (kq ≤ k) ∧ Aside0 (Kd.V k45 45 w' w.heap.size (fun k_ => (P0_ k_ ∨ w.heap.size ≤ k_)) v0 x0_1) ∧ Aside0 (Below w.heap.size w w'))
  case atStart => exact ⟨(l0), (0), (by first | rfl | (simp; done) | (simp [*]; done)), H', ⟨Nat.le_refl _⟩, ⟨by (with_reducible repeat (first | apply vA_ | apply vN_ | apply vD_)); exact HO0.out⟩, ⟨by repeat (first | (with_reducible first | exact HB.out | apply bA_ | apply bN_ | apply bD_) | exact HB.out)⟩⟩
  case round =>
    clear H'
    try clear c1
    try clear p2
    obtain ⟨x0_1, x6_1, rfl, HA, HK1, HO_0, HB⟩ := hrel
    cases gk with
    | zero => exact absurd HA.out (by simp [cadenceref2_Get.l0])
    | succ k1 =>
      have H := HA.out
      clear HA
      simp only [cadenceref2_Get.l0] at H
      by_cases c3 : x6_1 < (l1.length : Int)
      · rw [if_pos c3] at H
        have c3b0 : decide (x6_1 < (l1.length : Int)) = true := decide_eq_true c3
        clear c3
        by_cases c4 : 0 ≤ x6_1
        · rw [if_pos c4] at H
          have c4b0 : decide (0 ≤ x6_1) = true := decide_eq_true c4
          clear c4
          replace H := Option.bind_eq_some_iff.mp H
          obtain ⟨⟨t396, t399⟩, A50, H⟩ := H
          replace H : (if t399 = true then (cadenceref2_Get.l0 k1 t396 l1 (wrap64 (x6_1 + 1))) else (some (([] : List (S45)), false))) = some (r1, r2) := H
          have A5 := Aside0.mk A50
          clear A50
          by_cases c6 : t399 = true
          · subst c6
            have H1 : (cadenceref2_Get.l0 k1 t396 l1 (wrap64 (x6_1 + 1))) = some (r1, r2) := by rw [if_pos rfl] at H; exact H
            clear H
            have H := H1
            clear H1
            have H' := Aside0.mk H
            clear H
            have p395 : 0 ≤ (x6_1 : Int) := of_decide_eq_true (by first | (with_reducible assumption) | assumption)
            have q395 : x6_1 < (l1.length : Int) := of_decide_eq_true (by first | (with_reducible assumption) | assumption)
            obtain ⟨ad395, e395, hx395_0⟩ := Kd.at_string HR1.out x6_1 p395 q395
            cases e395
            replace hx395_0 := (HB.out.cell (World.block_lt_of_cell? w _ hx395_0)).trans hx395_0
            replace p395 := eq_true p395
            replace q395 := eq_true q395
            obtain ⟨Ao7, co7, eo7⟩ := Kd.V_slice HO_0.out
            subst eo7
            go_wp2_with (first | ((with_reducible refine gate_callee (f := 31) rfl ?_); refine goesL_ (some 21) rfl rfl Try.func31 (by kernel_rfl) rfl #[.slice Ao7 x0_1.length co7, .string (rdOf ByteArray.empty l1 x6_1)] rfl (by (try simp only [List.map_toArray, List.map_cons, List.map_nil]); first | done | rfl | (simp only [List.length_drop, List.length_take]; rfl)) ?_; (with_reducible refine (cadenceref2_Kid.calls k1 (fun k_ => (P0_ k_ ∨ w.heap.size ≤ k_)) _ _ x0_1 (rdOf ByteArray.empty l1 x6_1) t396 true _ ?side1 A5.out).mono ?_); (case side1 => exact HO_0.out); rintro e w8 ⟨v397, rfl, ho0, hb⟩; refine ⟨_, rfl, ?_⟩; have n0_ := Aside0.mk (Kd.V_below (by (with_reducible repeat (first | apply vA_ | apply vN_ | apply vD_)); exact HO_0.out) hb); have n1_ := Aside0.mk (Kd.V_lower (Kd.V_mono (ok' := fun k_ => (P0_ k_ ∨ w.heap.size ≤ k_)) ho0 (fun k_ hk_ => Or.elim hk_ (fun hs_ => hs_) (fun hn_ => (.inr (Nat.le_trans (below_size (by repeat (first | (with_reducible first | exact HB.out | apply bA_ | apply bN_ | apply bD_) | exact HB.out))) hn_))))) (below_size (by repeat (first | (with_reducible first | exact HB.out | apply bA_ | apply bN_ | apply bD_) | exact HB.out)))); have n2_ := Aside0.mk (below_step (by repeat (first | (with_reducible first | exact HB.out | apply bA_ | apply bN_ | apply bD_) | exact HB.out)) hb); clear HO_0; clear HB; have HO_0 := n0_; have HO398 := n1_; have HB := n2_; clear n0_ n1_ n2_; (try clear hb); (try clear hb2); (try clear hk); (try clear hi); (try clear ho0)))
            go_roundg k1
            case measure => have := HK1.out; omega
            case rel => exact ⟨(t396), (wrap64 (x6_1 + 1)), (by first | rfl | (simp; done) | (simp [*]; done)), H', ⟨by have := HK1.out; omega⟩, ⟨by (with_reducible repeat (first | apply vA_ | apply vN_ | apply vD_)); exact HO398.out⟩, ⟨by repeat (first | (with_reducible first | exact HB.out | apply bA_ | apply bN_ | apply bD_) | exact HB.out)⟩⟩
          · replace c6 := Bool.eq_false_iff.mpr c6
            subst c6
            have H1 : (some (([] : List (S45)), false)) = some (r1, r2) := by rw [if_neg (show ¬ (false = true) by decide)] at H; exact H
            clear H
            have H := H1
            clear H1
            simp only [Option.some.injEq, Prod.mk.injEq] at H
            obtain ⟨rfl, rfl⟩ := H
            have p395 : 0 ≤ (x6_1 : Int) := of_decide_eq_true (by first | (with_reducible assumption) | assumption)
            have q395 : x6_1 < (l1.length : Int) := of_decide_eq_true (by first | (with_reducible assumption) | assumption)
            obtain ⟨ad395, e395, hx395_0⟩ := Kd.at_string HR1.out x6_1 p395 q395
            cases e395
            replace hx395_0 := (HB.out.cell (World.block_lt_of_cell? w _ hx395_0)).trans hx395_0
            replace p395 := eq_true p395
            replace q395 := eq_true q395
            obtain ⟨Ao9, co9, eo9⟩ := Kd.V_slice HO_0.out
            subst eo9
            go_wp2_with (first | ((with_reducible refine gate_callee (f := 31) rfl ?_); refine goesL_ (some 21) rfl rfl Try.func31 (by kernel_rfl) rfl #[.slice Ao9 x0_1.length co9, .string (rdOf ByteArray.empty l1 x6_1)] rfl (by (try simp only [List.map_toArray, List.map_cons, List.map_nil]); first | done | rfl | (simp only [List.length_drop, List.length_take]; rfl)) ?_; (with_reducible refine (cadenceref2_Kid.calls k1 (fun k_ => (P0_ k_ ∨ w.heap.size ≤ k_)) _ _ x0_1 (rdOf ByteArray.empty l1 x6_1) t396 false _ ?side1 A5.out).mono ?_); (case side1 => exact HO_0.out); rintro e w10 ⟨v397, rfl, ho0, hb⟩; refine ⟨_, rfl, ?_⟩; have n0_ := Aside0.mk (Kd.V_below (by (with_reducible repeat (first | apply vA_ | apply vN_ | apply vD_)); exact HO_0.out) hb); have n1_ := Aside0.mk (Kd.V_lower (Kd.V_mono (ok' := fun k_ => (P0_ k_ ∨ w.heap.size ≤ k_)) ho0 (fun k_ hk_ => Or.elim hk_ (fun hs_ => hs_) (fun hn_ => (.inr (Nat.le_trans (below_size (by repeat (first | (with_reducible first | exact HB.out | apply bA_ | apply bN_ | apply bD_) | exact HB.out))) hn_))))) (below_size (by repeat (first | (with_reducible first | exact HB.out | apply bA_ | apply bN_ | apply bD_) | exact HB.out)))); have n2_ := Aside0.mk (below_step (by repeat (first | (with_reducible first | exact HB.out | apply bA_ | apply bN_ | apply bD_) | exact HB.out)) hb); clear HO_0; clear HB; have HO_0 := n0_; have HO398 := n1_; have HB := n2_; clear n0_ n1_ n2_; (try clear hb); (try clear hb2); (try clear hk); (try clear hi); (try clear ho0)))
            go_ret2
            exact ⟨_, by first | rfl | (simp [errW_none, errW_some] <;> rfl) | (simp [*, errW_none, errW_some] <;> rfl), Kd.V_mono (Kd.R_V (base := w.heap.size) (ok := fun k_ => w.heap.size ≤ k_) (by first | exact Kd.R_nil _ _ _ _ _ | exact Kd.N_nil _ _ _ _ _ | exact Kd.V_nil _ _ _ _ _ | exact Kd.Q_nil _ _ _ _ _ | exact Kd.S_nil _ _ _ _ _)) (fun k_ hk => by first | exact ⟨(.inr (hk.1)), hk.2⟩ | exact (.inr (hk))), by repeat (first | (with_reducible first | exact HB.out | apply bA_ | apply bN_ | apply bD_) | exact HB.out)⟩
        · rw [if_neg c4] at H
          exact absurd H (by simp)
      · rw [if_neg c3] at H
        have c3b0 : decide (x6_1 < (l1.length : Int)) = false := decide_eq_false c3
        clear c3
        simp only [Option.some.injEq, Prod.mk.injEq] at H
        obtain ⟨rfl, rfl⟩ := H
        go_wp2
        go_ret2
        exact ⟨_, by first | rfl | (simp [errW_none, errW_some] <;> rfl) | (simp [*, errW_none, errW_some] <;> rfl), by (with_reducible repeat (first | apply vA_ | apply vN_ | apply vD_)); exact HO_0.out, by repeat (first | (with_reducible first | exact HB.out | apply bA_ | apply bN_ | apply bD_) | exact HB.out)⟩

end Go.Proofs.Ytbhgocpenbibgaa.PX
-- written by wip/tools/hybrid.py (over the kit's print.py, with functions proved by hand beside it) for this claim
namespace Go.Proofs.Ytbhgocpenbibgaa.PX
open Go.RowKit Go.Proofs.YtbhgocpenbibgaaW.PrintWords Go.Proofs.YtbhgocpenbibgaaW.PrintLast Go.Proofs.YtbhgocpenbibgaaW.PrintMore
attribute [local go_sem] max2_int min2_int max_two min_two max_three min_three max_four min_four   -- for this text's walks alone
set_option linter.unusedVariables false
set_option linter.unusedSimpArgs false

/-! ### cadenceref2_Put: function 15 -/
def cadenceref2_Put.f : Nat → List (S45) → List ByteArray → List (S45) → Option ((List (S45)))
  | 0, _, _, _ => none
  | k + 1, l0, l1, l2 => if (l1.length : Int) = 0 then (some l2) else (if 0 < (l1.length : Int) then ((cadenceref2_Kid.f k l0 (rdOf ByteArray.empty l1 0)).bind fun bt401 => (if 1 ≤ (l1.length : Int) then ((cadenceref2_Put.f k bt401.1 (l1.drop 1) l2).bind fun t407 => ((cadenceref2_With.f k l0 (rdOf ByteArray.empty l1 0) t407).bind fun t410 => (some t410))) else (none))) else (none))
theorem cadenceref2_Put.mono_l : ∀ k, (∀ y0 y1 y2, LeO (cadenceref2_Put.f k y0 y1 y2) (cadenceref2_Put.f (k + 1) y0 y1 y2))
  | 0 => fun _ _ _ r h => by simp [cadenceref2_Put.f] at h
  | k + 1 => by
    have ih0 := cadenceref2_Put.mono_l k
    · intro y0 y1 y2
      unfold cadenceref2_Put.f
      repeat' first
      | (with_reducible exact ih0 _ _ _)
      | (with_reducible exact cadenceref2_Kid.mono _ _ _)
      | (with_reducible exact cadenceref2_With.mono _ _ _ _)
      | (with_reducible exact LeO.refl _)
      | (with_reducible exact LeO.none _)
      | (with_reducible refine LeO.ite ?_ ?_)
      | (with_reducible refine LeO.bind ?_ (fun _ => ?_))
      | exact ih0 _ _ _
      | exact cadenceref2_Kid.mono _ _ _
      | exact cadenceref2_With.mono _ _ _ _
      | exact LeO.none _
      | refine LeO.ite ?_ ?_
      | refine LeO.bind ?_ (fun _ => ?_)
theorem cadenceref2_Put.mono : ∀ a0 a1 a2 k, LeO (cadenceref2_Put.f k a0 a1 a2) (cadenceref2_Put.f (k + 1) a0 a1 a2) := by
  intro a0 a1 a2 k
  have ih0 := cadenceref2_Put.mono_l k
  exact ih0 a0 a1 a2
def cadenceref2_Put.T4 : Bool × List (List Nat × List Nat) := (true, [([], []), ([], []), ([1], [1]), ([2], [2]), ([], []), ([], []), ([5], [5]), ([], []), ([4, 6, 7], [4, 6, 7]), ([0, 3, 8, 8], [0, 3, 8]), ([9, 9, 0, 1, 2, 3, 4, 5, 6, 7, 8, 9], [9])])
def cadenceref2_Put.B4 : List Nat := [0, 0, 2, 6, 0, 0, 32, 0, 240, 511, 1023]
theorem cadenceref2_Put.tab4 : rtab .any (opsOf Try.f15 4) = cadenceref2_Put.T4 := by kernel_rfl
theorem cadenceref2_Put.bits4 : waitsOk cadenceref2_Put.T4.2 cadenceref2_Put.B4 = true := by kernel_rfl
set_option maxHeartbeats 8000000 in
set_option maxRecDepth 100000 in
theorem cadenceref2_Put.calls (k : Nat) : ∀ (P0_ : Nat → Prop) (A0 : Option Addr) (c0 : Nat) (l0 : List (S45)) (A1 : Option Addr) (c1 : Nat) (l1 : List ByteArray) (P2_ : Nat → Prop) (A2 : Option Addr) (c2 : Nat) (l2 : List (S45)) (r : List (S45)) (w : World) (hs0 : Kd.V k45 45 w w.heap.size (fun k_ => P0_ k_) (.slice A0 l0.length c0) l0) (hr1 : Kd.C Kd.string w A1 l1.length l1) (hc1 : l1.length ≤ c1) (hs2 : Kd.V k45 45 w w.heap.size (fun k_ => P2_ k_) (.slice A2 l2.length c2) l2) (h : cadenceref2_Put.f k l0 l1 l2 = some r),
    Calls Try.prog 15 #[.slice A0 l0.length c0, .slice A1 l1.length c1, .slice A2 l2.length c2] w fun e w' => ∃ v0_ : Value, e = .returned (v0_) ∧ Kd.V k45 45 w' w.heap.size (fun k_ => ((P0_ k_ ∨ P2_ k_) ∨ w.heap.size ≤ k_)) v0_ r ∧ Below w.heap.size w w' := by
  induction k using Nat.strongRecOn with
  | _ k ih =>
  intro P0_ A0 c0 l0 A1 c1 l1 P2_ A2 c2 l2 r w hs0 hr1 hc1 hs2 h
  cases k with
  | zero => exact absurd h (by simp [cadenceref2_Put.f])
  | succ k =>
  simp only [cadenceref2_Put.f] at h
  have HO0 := Aside0.mk (show Kd.V k45 45 w w.heap.size (fun k_ => ((P0_ k_ ∨ P2_ k_) ∨ w.heap.size ≤ k_)) (.slice A0 l0.length c0) l0 from Kd.V_mono hs0 (fun k_ hk => .inl (.inl hk)))
  have HR1 := Aside0.mk hr1
  have HC1 := Aside0.mk hc1
  clear hr1 hc1
  have HO2 := Aside0.mk (show Kd.V k45 45 w w.heap.size (fun k_ => ((P0_ k_ ∨ P2_ k_) ∨ w.heap.size ≤ k_)) (.slice A2 l2.length c2) l2 from Kd.V_mono hs2 (fun k_ hk => .inl (.inr hk)))
  have HB := Aside0.mk (Below.refl w.heap.size w)
  have H : (if (l1.length : Int) = 0 then (some l2) else (if 0 < (l1.length : Int) then ((cadenceref2_Kid.f k l0 (rdOf ByteArray.empty l1 0)).bind fun bt401 => (if 1 ≤ (l1.length : Int) then ((cadenceref2_Put.f k bt401.1 (l1.drop 1) l2).bind fun t407 => ((cadenceref2_With.f k l0 (rdOf ByteArray.empty l1 0) t407).bind fun t410 => (some t410))) else (none))) else (none))) = some r := h
  clear h
  by_cases c4 : (l1.length : Int) = 0
  · rw [if_pos c4] at H
    have c4b0 : ((l1.length : Int) == 0) = true := beq_iff_eq.mpr c4
    have c4b1 : ((l1.length : Int) != 0) = false := bne_eq_false_iff_eq.mpr c4
    clear c4
    obtain rfl := Option.some.inj H
    go_enter Try.func15, Try.ntmps15
    go_wp2
    go_ret
    exact ⟨_, by first | rfl | (simp [errW_none, errW_some] <;> rfl) | (simp [*, errW_none, errW_some] <;> rfl), by (with_reducible repeat (first | apply vA_ | apply vN_ | apply vD_)); exact HO2.out, by repeat (first | (with_reducible first | exact HB.out | apply bA_ | apply bN_ | apply bD_) | exact HB.out)⟩
  · rw [if_neg c4] at H
    have c4b0 : ((l1.length : Int) == 0) = false := beq_eq_false_iff_ne.mpr c4
    have c4b1 : ((l1.length : Int) != 0) = true := bne_iff_ne.mpr c4
    have c4b2 : ¬ (l1 = []) := fun h_ => c4 (by rw [h_]; rfl)
    by_cases c5 : 0 < (l1.length : Int)
    · rw [if_pos c5] at H
      have c5b0 : decide (0 < (l1.length : Int)) = true := decide_eq_true c5
      have c5b1 : decide (0 < l1.length) = true := decide_eq_true (by omega)
      clear c5
      replace H := Option.bind_eq_some_iff.mp H
      obtain ⟨⟨t401, t404⟩, A60, H⟩ := H
      replace H : (if 1 ≤ (l1.length : Int) then ((cadenceref2_Put.f k t401 (l1.drop 1) l2).bind fun t407 => ((cadenceref2_With.f k l0 (rdOf ByteArray.empty l1 0) t407).bind fun t410 => (some t410))) else (none)) = some r := H
      have A6 := Aside0.mk A60
      clear A60
      by_cases c7 : 1 ≤ (l1.length : Int)
      · rw [if_pos c7] at H
        have c7b0 := eq_true c7
        have c7b1 : decide (1 ≤ (l1.length : Int)) = true := decide_eq_true c7
        clear c7
        replace H := Option.bind_eq_some_iff.mp H
        obtain ⟨t407, A80, H⟩ := H
        replace H : ((cadenceref2_With.f k l0 (rdOf ByteArray.empty l1 0) t407).bind fun t410 => (some t410)) = some r := H
        have A8 := Aside0.mk A80
        clear A80
        replace H := Option.bind_eq_some_iff.mp H
        obtain ⟨t410, A90, H⟩ := H
        replace H : (some t410) = some r := H
        have A9 := Aside0.mk A90
        clear A90
        obtain rfl := Option.some.inj H
        have p400 : 0 ≤ (0 : Int) := (by omega)
        have q400 : 0 < (l1.length : Int) := of_decide_eq_true (by first | (with_reducible assumption) | assumption)
        obtain ⟨ad400, e400, hx400_0⟩ := Kd.at_string HR1.out 0 p400 q400
        cases e400
        have qi400 : (0 < l1.length) = True := eq_true (by omega)
        (try rw [show ((0 : Int)).toNat = 0 from rfl] at hx400_0)
        (try rw [Addr.add_zero'] at hx400_0)
        replace p400 := eq_true p400
        replace q400 := eq_true q400
        go_enter Try.func15, Try.ntmps15
        try go_wp2_with (first | ((with_reducible refine gate_callee (f := 31) rfl ?_); refine goesL_ (some 18) rfl rfl Try.func31 (by kernel_rfl) rfl #[.slice A0 l0.length c0, .string (rdOf ByteArray.empty l1 0)] rfl (by (try simp only [List.map_toArray, List.map_cons, List.map_nil]); first | done | rfl | (simp only [List.length_drop, List.length_take]; rfl)) ?_; (with_reducible refine (cadenceref2_Kid.calls k (fun k_ => ((P0_ k_ ∨ P2_ k_) ∨ w.heap.size ≤ k_)) _ _ l0 (rdOf ByteArray.empty l1 0) t401 t404 _ ?side1 A6.out).mono ?_); (case side1 => exact HO0.out); rintro e w10 ⟨v402, rfl, ho0, hb⟩; refine ⟨_, rfl, ?_⟩; have n0_ := Aside0.mk (Kd.V_below (by (with_reducible repeat (first | apply vA_ | apply vN_ | apply vD_)); exact HO0.out) hb); have n1_ := Aside0.mk (Kd.V_below (by (with_reducible repeat (first | apply vA_ | apply vN_ | apply vD_)); exact HO2.out) hb); have n2_ := Aside0.mk (Kd.V_lower (Kd.V_mono (ok' := fun k_ => ((P0_ k_ ∨ P2_ k_) ∨ w.heap.size ≤ k_)) ho0 (fun k_ hk_ => Or.elim hk_ (fun hs_ => hs_) (fun hn_ => (.inr (Nat.le_trans (below_size (by repeat (first | (with_reducible first | exact HB.out | apply bA_ | apply bN_ | apply bD_) | exact HB.out))) hn_))))) (below_size (by repeat (first | (with_reducible first | exact HB.out | apply bA_ | apply bN_ | apply bD_) | exact HB.out)))); have n3_ := Aside0.mk (below_step (by repeat (first | (with_reducible first | exact HB.out | apply bA_ | apply bN_ | apply bD_) | exact HB.out)) hb); clear HO0; clear HO2; clear HB; have HO0 := n0_; have HO2 := n1_; have HO403 := n2_; have HB := n3_; clear n0_ n1_ n2_ n3_; (try clear hb); (try clear hb2); (try clear hk); (try clear hi); (try clear ho0)))
        have n0_ := Aside0.mk (vD_ HO0.out)
        have n1_ := Aside0.mk (vD_ HO2.out)
        have n2_ := Aside0.mk (vD_ HO403.out)
        have n3_ := Aside0.mk (bD_ HB.out)
        clear HO0
        clear HO2
        clear HO403
        clear HB
        have HO0 := n0_
        have HO2 := n1_
        have HO403 := n2_
        have HB := n3_
        clear n0_ n1_ n2_ n3_
        have p405 : 0 ≤ (0 : Int) := (by omega)
        have q405 : 0 < (l1.length : Int) := of_decide_eq_true (by first | (with_reducible assumption) | assumption)
        obtain ⟨ad405, e405, hx405_0⟩ := Kd.at_string HR1.out 0 p405 q405
        have hw405_0 := hx405_0
        (try rw [show ((0 : Int)).toNat = 0 from rfl] at hw405_0)
        (try rw [show 0 * 1 = 0 from rfl] at hw405_0)
        (try rw [Addr.add_zero'] at hw405_0)
        obtain rfl : ad400 = ad405 := (by injection e405)
        have qi405 : (0 < l1.length) = True := eq_true (by omega)
        (try rw [show ((0 : Int)).toNat = 0 from rfl] at hx405_0)
        (try rw [Addr.add_zero'] at hx405_0)
        replace hx405_0 := (HB.out.cell (World.block_lt_of_cell? w _ hx405_0)).trans hx405_0
        replace p405 := eq_true p405
        replace q405 := eq_true q405
        obtain ⟨i012, hi012, _, hsz12, _⟩ := info_parts info9
        obtain ⟨A12, hcut12, hA12, hC12⟩ := print_drop_of (P := Try.prog) Value.string (⟨#[]⟩ : ByteArray) 31 9 .i64 Try.underlying31 hi012 hsz12 (some ad400) c1 l1 1 (by omega) (of_decide_eq_true (by first | (with_reducible assumption) | assumption)) HC1.out
        have HR406 := Aside0.mk (Kd.C_of_reads (h1 := fun _ => rfl) (hA12 _ (Kd.reads_of_C HR1.out)))
        have HC406 := Aside0.mk hC12
        clear hA12 hC12 hi012 hsz12
        obtain ⟨Ao13, co13, eo13⟩ := Kd.V_slice HO403.out
        (first | subst eo13 | (injection eo13 with f1_ f2_ f3_; have f4_ := f1_.symm; have f5_ := f3_.symm; clear f1_ f2_ f3_; subst f4_; subst f5_))
        refine start_ (n := 11) (S := fun w' => w'.cell? ad400 = some (.string (rdOf ByteArray.empty l1 0))) (ds := []) #[false, false, false, false, false, false, false, false, false, false, false] (by kernel_rfl) rfl rfl (((HB.out.cell (World.block_lt_of_cell? w _ hw405_0)).trans hw405_0)) (fun hHeld => ?_); refine with_tabW cadenceref2_Put.tab4 cadenceref2_Put.bits4 (fun HT_ HW_ => ?_)
        generalize w10.drew = w11 at HO0 HO2 HO403 HB HR406 hx405_0 hHeld ⊢
        refine pure_ (i := 0) (N := some 21) (v := ?_) (a' := ?_) #[true, false, false, false, false, false, false, false, false, false, false] rfl rfl (any_of HT_.out (by kernel_rfl)) (fun _ _ _ h => h) (Or.inl ⟨by rfl, ?_⟩) ?_ ?_
        rotate_left
        · intro w'
          go_simp
          with_reducible rfl
        rotate_left
        · simp only [Act.put, List.setIfInBounds_toArray, List.set_cons_zero, List.set_cons_succ, i64_w, i32_w]
          rfl
        refine pure_ (i := 1) (N := some 22) (v := ?_) (a' := ?_) #[true, true, false, false, false, false, false, false, false, false, false] rfl rfl (any_of HT_.out (by kernel_rfl)) (fun _ _ _ h => h) (Or.inl ⟨by rfl, ?_⟩) ?_ ?_
        rotate_left
        · intro w'
          go_simp
          with_reducible rfl
        rotate_left
        · simp only [Act.put, List.setIfInBounds_toArray, List.set_cons_zero, List.set_cons_succ, i64_w, i32_w]
          rfl
        refine pure_ (i := 2) (N := some 23) (v := ?_) (a' := ?_) #[true, true, true, false, false, false, false, false, false, false, false] rfl rfl (any_of HT_.out (by kernel_rfl)) (fun _ _ _ h => h) (Or.inl ⟨by rfl, ?_⟩) ?_ ?_
        rotate_left
        · intro w'
          go_simp
          with_reducible rfl
        rotate_left
        · simp only [Act.put, List.setIfInBounds_toArray, List.set_cons_zero, List.set_cons_succ, i64_w, i32_w]
          rfl
        refine pure_ (i := 4) (N := some 25) (v := ?_) (a' := ?_) #[true, true, true, false, true, false, false, false, false, false, false] rfl rfl (any_of HT_.out (by kernel_rfl)) (fun _ _ _ h => h) (Or.inl ⟨by rfl, ?_⟩) ?_ ?_
        rotate_left
        · intro w'
          go_simp
          with_reducible rfl
        rotate_left
        · simp only [Act.put, List.setIfInBounds_toArray, List.set_cons_zero, List.set_cons_succ, i64_w, i32_w]
          rfl
        refine pure_ (i := 5) (N := some 26) (v := ?_) (a' := ?_) #[true, true, true, false, true, true, false, false, false, false, false] rfl rfl (any_of HT_.out (by kernel_rfl)) (fun _ _ _ h => h) (Or.inl ⟨by rfl, ?_⟩) ?_ ?_
        rotate_left
        · intro w'
          go_simp
          with_reducible rfl
        rotate_left
        · simp only [Act.put, List.setIfInBounds_toArray, List.set_cons_zero, List.set_cons_succ, i64_w, i32_w]
          rfl
        refine pure_ (i := 6) (N := some 27) (v := ?_) (a' := ?_) #[true, true, true, false, true, true, true, false, false, false, false] rfl rfl (any_of HT_.out (by kernel_rfl)) (fun _ _ _ h => h) (Or.inl ⟨by rfl, ?_⟩) ?_ ?_
        rotate_left
        · intro w'
          go_simp
          with_reducible rfl
        rotate_left
        · simp only [Act.put, List.setIfInBounds_toArray, List.set_cons_zero, List.set_cons_succ, i64_w, i32_w]
          rfl
        refine pure_ (i := 7) (N := some 28) (v := ?_) (a' := ?_) #[true, true, true, false, true, true, true, true, false, false, false] rfl rfl (any_of HT_.out (by kernel_rfl)) (fun _ _ _ h => h) (Or.inl ⟨by rfl, ?_⟩) ?_ ?_
        rotate_left
        · intro w'
          go_simp
          with_reducible rfl
        rotate_left
        · simp only [Act.put, List.setIfInBounds_toArray, List.set_cons_zero, List.set_cons_succ, i64_w, i32_w]
          rfl
        refine take_ (i := 3) (N := some 24) (v := ?_) (a' := ?_) #[true, true, true, true, true, true, true, true, false, false, false] rfl rfl (take_ofW HT_.out HW_.out (by kernel_rfl)) (fun _ _ _ h => h) (Or.inl ⟨by rfl, ?_⟩) hHeld ?_ ?_
        rotate_left
        · intro w' s0
          go_simp
          with_reducible rfl
        rotate_left
        · simp only [Act.put, List.setIfInBounds_toArray, List.set_cons_zero, List.set_cons_succ, i64_w, i32_w]
          rfl
        refine one_ (i := 8) (N := some 29) #[true, true, true, true, true, true, true, true, true, false, false] rfl rfl (one_of HT_.out (by kernel_rfl)) (by decide) (fun K hK => ?_)
        refine goes_ Try.func15 (by kernel_rfl) rfl #[.slice Ao13 t401.length co13, .slice A12 (l1.drop 1).length (c1 - 1), .slice A2 l2.length c2] (by rfl) rfl rfl (by (try simp only [List.map_toArray, List.map_cons, List.map_nil]); first | done | (rw [show (l1.drop 1).length = (l1.length - 1) from List.length_drop] <;> rfl) | rfl | (simp only [List.length_drop, List.length_take]; rfl)) ?_
        with_reducible refine (ih k (by omega) (fun k_ => ((P0_ k_ ∨ P2_ k_) ∨ w.heap.size ≤ k_)) _ _ t401 _ _ (l1.drop 1) (fun k_ => ((P0_ k_ ∨ P2_ k_) ∨ w.heap.size ≤ k_)) _ _ l2 t407 _ ?side1 ?side2 ?side3 ?side4 A8.out).mono ?_
        (case side1 => exact HO403.out)
        (case side2 => repeat (first | exact (Kd.C_below HR406.out HB.out) | (with_reducible refine cA_ ?_ _) | (with_reducible refine cN_ ?_ _) | (with_reducible refine cD_ ?_)))
        (case side3 => exact HC406.out)
        (case side4 => exact HO2.out)
        rintro e w14 ⟨v408, rfl, ho0, hb⟩
        refine ⟨_, rfl, ?_⟩
        have n0_ := Aside0.mk (Kd.V_below (by (with_reducible repeat (first | apply vA_ | apply vN_ | apply vD_)); exact HO0.out) hb)
        have n1_ := Aside0.mk (Kd.V_below (by (with_reducible repeat (first | apply vA_ | apply vN_ | apply vD_)); exact HO2.out) hb)
        have n2_ := Aside0.mk (Kd.V_below (by (with_reducible repeat (first | apply vA_ | apply vN_ | apply vD_)); exact HO403.out) hb)
        have n3_ := Aside0.mk (Kd.V_lower (Kd.V_mono (ok' := fun k_ => ((P0_ k_ ∨ P2_ k_) ∨ w.heap.size ≤ k_)) ho0 (fun k_ hk_ => Or.elim hk_ (fun hs_ => Or.elim hs_ (fun hs_ => hs_) (fun hs_ => hs_)) (fun hn_ => (.inr (Nat.le_trans (below_size (by repeat (first | (with_reducible first | exact HB.out | apply bA_ | apply bN_ | apply bD_) | exact HB.out))) hn_))))) (below_size (by repeat (first | (with_reducible first | exact HB.out | apply bA_ | apply bN_ | apply bD_) | exact HB.out))))
        have n4_ := Aside0.mk (below_step (by repeat (first | (with_reducible first | exact HB.out | apply bA_ | apply bN_ | apply bD_) | exact HB.out)) hb)
        clear HO0
        clear HO2
        clear HO403
        clear HB
        have HO0 := n0_
        have HO2 := n1_
        have HO403 := n2_
        have HO409 := n3_
        have HB := n4_
        clear n0_ n1_ n2_ n3_ n4_
        (try clear hb)
        (try clear hb2)
        (try clear hk)
        (try clear hi)
        (try clear ho0)
        obtain ⟨Ao15, co15, eo15⟩ := Kd.V_slice HO409.out
        (first | subst eo15 | (injection eo15 with f1_ f2_ f3_; have f4_ := f1_.symm; have f5_ := f3_.symm; clear f1_ f2_ f3_; subst f4_; subst f5_))
        refine hK.out _ _ (((HB.out.cell (World.block_lt_of_cell? w _ hw405_0)).trans hw405_0)) (fun hHeld => ?_)
        clear hK K
        refine norm_ (a' := ?_) ?_ ?_
        rotate_left
        · show Act.put _ (some 29) _ = _
          simp only [Act.put, List.setIfInBounds_toArray, List.set_cons_zero, List.set_cons_succ, i64_w, i32_w]
          rfl
        refine one_ (i := 9) (N := some 30) #[true, true, true, true, true, true, true, true, true, true, false] rfl rfl (one_of HT_.out (by kernel_rfl)) (by decide) (fun K hK => ?_)
        refine goes_ Try.func24 (by kernel_rfl) rfl #[.slice A0 l0.length c0, .string (rdOf ByteArray.empty l1 0), .slice Ao15 t407.length co15] (by rfl) rfl rfl (by (try simp only [List.map_toArray, List.map_cons, List.map_nil]); first | done | rfl | (simp only [List.length_drop, List.length_take]; rfl)) ?_
        with_reducible refine (cadenceref2_With.calls k (fun k_ => ((P0_ k_ ∨ P2_ k_) ∨ w.heap.size ≤ k_)) _ _ l0 (rdOf ByteArray.empty l1 0) (fun k_ => ((P0_ k_ ∨ P2_ k_) ∨ w.heap.size ≤ k_)) _ _ t407 t410 _ ?side1 ?side2 A9.out).mono ?_
        (case side1 => exact HO0.out)
        (case side2 => exact HO409.out)
        rintro e w16 ⟨v411, rfl, ho0, hb⟩
        refine ⟨_, rfl, ?_⟩
        have n0_ := Aside0.mk (Kd.V_elder' (by (with_reducible repeat (first | apply vA_ | apply vN_ | apply vD_)); exact HO0.out) (Kd.N_base ho0) hb)
        have n1_ := Aside0.mk (Kd.V_elder' (by (with_reducible repeat (first | apply vA_ | apply vN_ | apply vD_)); exact HO2.out) (Kd.N_base ho0) hb)
        have n2_ := Aside0.mk (Kd.V_elder' (by (with_reducible repeat (first | apply vA_ | apply vN_ | apply vD_)); exact HO403.out) (Kd.N_base ho0) hb)
        have n3_ := Aside0.mk (Kd.V_elder' (by (with_reducible repeat (first | apply vA_ | apply vN_ | apply vD_)); exact HO409.out) (Kd.N_base ho0) hb)
        have n4_ := Aside0.mk (Kd.N_lower (Kd.N_mono (ok' := fun k_ => ((P0_ k_ ∨ P2_ k_) ∨ w.heap.size ≤ k_)) ho0 (fun k_ hk_ => Or.elim hk_ (fun hs_ => Or.elim hs_ (fun hs_ => hs_) (fun hs_ => hs_)) (fun hn_ => (.inr (Nat.le_trans (below_size (by repeat (first | (with_reducible first | exact HB.out | apply bA_ | apply bN_ | apply bD_) | exact HB.out))) hn_))))) (below_size (by repeat (first | (with_reducible first | exact HB.out | apply bA_ | apply bN_ | apply bD_) | exact HB.out))))
        have n5_ := Aside0.mk (below_step (by repeat (first | (with_reducible first | exact HB.out | apply bA_ | apply bN_ | apply bD_) | exact HB.out)) hb)
        clear HO0
        clear HO2
        clear HO403
        clear HO409
        clear HB
        have HO0 := n0_
        have HO2 := n1_
        have HO403 := n2_
        have HO409 := n3_
        have HO412 := n4_
        have HB := n5_
        clear n0_ n1_ n2_ n3_ n4_ n5_
        (try clear hb)
        (try clear hb2)
        (try clear hk)
        (try clear hi)
        (try clear ho0)
        refine hK.out _ _ (((HB.out.cell (World.block_lt_of_cell? w _ hw405_0)).trans hw405_0)) (fun hHeld => ?_)
        clear hK K
        refine norm_ (a' := ?_) ?_ ?_
        rotate_left
        · show Act.put _ (some 30) _ = _
          simp only [Act.put, List.setIfInBounds_toArray, List.set_cons_zero, List.set_cons_succ, i64_w, i32_w]
          rfl
        refine pure_ (i := 10) (N := some 6) (v := ?_) (a' := ?_) #[true, true, true, true, true, true, true, true, true, true, true] rfl rfl (any_of HT_.out (by kernel_rfl)) (fun _ _ _ h => h) (Or.inl ⟨by rfl, ?_⟩) ?_ ?_
        rotate_left
        · intro w'
          go_simp
          with_reducible rfl
        rotate_left
        · simp only [Act.put, List.setIfInBounds_toArray, List.set_cons_zero, List.set_cons_succ, i64_w, i32_w]
          rfl
        refine done_ (done_of HT_.out (by kernel_rfl)) ?_
        try go_wp2
        go_ret
        exact ⟨_, by first | rfl | (simp [errW_none, errW_some] <;> rfl) | (simp [*, errW_none, errW_some] <;> rfl), Kd.N_V (by (with_reducible repeat (first | apply nA_ | apply nN_ | apply nD_)); exact HO412.out), by repeat (first | (with_reducible first | exact HB.out | apply bA_ | apply bN_ | apply bD_) | exact HB.out)⟩
      · rw [if_neg c7] at H
        exact absurd H (by simp)
    · rw [if_neg c5] at H
      exact absurd H (by simp)

end Go.Proofs.Ytbhgocpenbibgaa.PX
/- The reference's Get, Put, Without, Drop. -/
set_option linter.unusedVariables false
namespace Go.Proofs.Ytbhgocpenbibgaa.PX
open Go.RowKit Go.Proofs.YtbhgocpenbibgaaW.PrintWords Go.Proofs.YtbhgocpenbibgaaW.PrintLast Go.Proofs.YtbhgocpenbibgaaW.PrintMore Go.Proofs.Ytbhgocpenbibgaa
def putM : Tr → List ByteArray → Tr → Tr
  | _, [], x => x
  | t, n :: p, x => withT t n (putM ((kid t n).getD []) p x)
def dropM : Tr → List ByteArray → Tr
  | _, [] => []
  | t, n :: p => match kid t n with
    | none => t
    | some x => if p = [] then dropT t n else withT t n (dropM x p)
theorem refGet_ev {W : Nat} (hW : W ≤ 1000000) {d : Nat} {t : Tr} (p : List ByteArray) (ht : Ok W d t) (hp : p.length ≤ 1000000) : Ev (fun k => cadenceref2_Get.f k t p) (getR t p) := by
  have loop : ∀ (m i : Nat) (t : Tr), i + m = p.length → Ok W d t → Ev (fun k => cadenceref2_Get.l0 k t p (i : Int)) (getR t (p.drop i)) := by
    intro m
    induction m with
    | zero =>
      intro i t hi ht
      rw [List.drop_eq_nil_of_le (by omega)]
      refine Ev.step (f := fun _ => some (t, true)) (fun k => ?_) (Ev.now _)
      simp only [cadenceref2_Get.l0]
      rw [if_neg (by omega)]
    | succ m ih =>
      intro i t hi ht
      have hil : i < p.length := by omega
      have htl := ht.length
      rw [List.drop_eq_getElem_cons hil]
      have hk := kid_ev t p[i] (by omega)
      cases e : kid t p[i] with
      | none =>
        rw [e] at hk
        refine Ev.step (f := fun k => (cadenceref2_Kid.f k t p[i]).bind fun u => if u.2 = true then cadenceref2_Get.l0 k u.1 p ((i + 1 : Nat) : Int) else some ([], false)) (fun k => ?_) (Ev.bind hk (by rw [getR, e]; exact Ev.congr (fun k => if_neg (by simp)) (Ev.now _)))
        simp only [cadenceref2_Get.l0]
        rw [if_pos (by omega), if_pos (by omega), rdOf_nat hil, wrap_succ (by omega)]
      | some x =>
        rw [e] at hk
        refine Ev.step (f := fun k => (cadenceref2_Kid.f k t p[i]).bind fun u => if u.2 = true then cadenceref2_Get.l0 k u.1 p ((i + 1 : Nat) : Int) else some ([], false)) (fun k => ?_) (Ev.bind hk (by rw [getR, e]; exact Ev.congr (fun k => if_pos rfl) (ih (i + 1) x (by omega) (ht.kidle e))))
        simp only [cadenceref2_Get.l0]
        rw [if_pos (by omega), if_pos (by omega), rdOf_nat hil, wrap_succ (by omega)]
  exact loop p.length 0 t (by omega) ht
theorem put_ev {W : Nat} (hW : W ≤ 1000000000) (x : Tr) : ∀ (p : List ByteArray) {d : Nat} {t : Tr}, Ok W d t → p.length ≤ 1000000 → Ev (fun k => cadenceref2_Put.f k t p x) (putM t p x)
  | [], d, t, ht, hp => Ev.step (f := fun _ => some x) (fun k => by simp only [cadenceref2_Put.f]; rw [if_pos (by simp)]) (Ev.now _)
  | n :: p, d, t, ht, hp => by
    have htl := ht.length
    have hk := kid_ev t n (by omega)
    have h0 : Ok W d ((kid t n).getD []) := by
      cases e : kid t n with
      | none => exact Ok.nil _ _
      | some x => exact ht.kidle e
    have hl : ((n :: p).length : Int) = (p.length : Int) + 1 := by simp
    refine Ev.step (f := fun k => (cadenceref2_Kid.f k t n).bind fun u => (cadenceref2_Put.f k u.1 p x).bind fun v => (cadenceref2_With.f k t n v).bind fun q => some q) (fun k => ?_) (Ev.bind hk (Ev.bind (put_ev hW x p h0 (by simp at hp; omega)) (Ev.bind (with_ev t n _ (by omega)) (Ev.now _))))
    simp only [cadenceref2_Put.f]
    rw [if_neg (by omega), if_pos (by omega)]
    have hn : rdOf ByteArray.empty (n :: p) 0 = n := rfl
    rw [hn]
    congr 1
    funext u
    rw [if_pos (by omega)]
    rfl
theorem getR_ok {W : Nat} : ∀ {d : Nat} {t x : Tr} {p : List ByteArray}, Ok W d t → getR t p = (x, true) → p.length ≤ d ∧ Ok W (d - p.length) x
  | d, t, x, [], ht, h => by
    rw [getR] at h
    injection h with h _
    subst h
    exact ⟨Nat.zero_le _, ht⟩
  | 0, t, x, n :: p, ht, h => by
    rw [show t = [] from ht, getR] at h
    cases h
  | d + 1, t, x, n :: p, ht, h => by
    rw [getR] at h
    cases e : kid t n with
    | none => rw [e] at h; cases h
    | some y =>
      rw [e] at h
      obtain ⟨h1, h2⟩ := getR_ok (ht.kid e) h
      refine ⟨by simpa using h1, ?_⟩
      rw [List.length_cons, show d + 1 - (p.length + 1) = d - p.length by omega]
      exact h2
theorem putM_ok {W : Nat} : ∀ {d : Nat} {t x : Tr} {p : List ByteArray}, Ok W d t → p.length ≤ d → Ok W (d - p.length) x → Ok (W + 1) d (putM t p x)
  | d, t, x, [], ht, hp, hx => hx.wide (Nat.le_succ _)
  | 0, t, x, n :: p, ht, hp, hx => by simp at hp
  | d + 1, t, x, n :: p, ht, hp, hx => by
    rw [List.length_cons, show d + 1 - (p.length + 1) = d - p.length by omega] at hx
    have h1 := putM_ok (ht.kid0 (n := n)) (by simpa using hp) hx
    rw [putM]
    exact (ht.wide (Nat.le_succ _)).withT h1 (Nat.le_trans (withT_length _ _ _) (Nat.succ_le_succ ht.length))
theorem dropM_ok {W : Nat} : ∀ {d : Nat} {t : Tr} {p : List ByteArray}, Ok W d t → Ok W d (dropM t p)
  | d, t, [], ht => Ok.nil _ _
  | 0, t, n :: p, ht => by
    rw [show t = [] from ht]
    exact Ok.nil _ _
  | d + 1, t, n :: p, ht => by
    rw [dropM]
    cases e : kid t n with
    | none => exact ht
    | some x =>
      dsimp only
      split
      · exact ht.dropT
      · have hl : (withT t n (dropM x p)).length ≤ W := by
          have h1 : hasAt t n = true := by rw [hasAt_kid, e]; rfl
          obtain ⟨h2, _⟩ := kid_pos t n x e
          have h3 := ht.length
          rw [withT_eq, h1]
          simp only [if_true, List.length_append, List.length_take, List.length_cons, List.length_drop]
          omega
        exact ht.withT (dropM_ok (ht.kid e)) hl
end Go.Proofs.Ytbhgocpenbibgaa.PX
/- What the paths say of the trees: plain lists, no program. -/
set_option linter.unusedVariables false
namespace Go.Proofs.Ytbhgocpenbibgaa.PX
open Go.RowKit Go.Proofs.Ytbhgocpenbibgaa
def mend (b c : Tr) (p : List ByteArray) : Tr := if (getR b p).2 = true then putM c p (getR b p).1 else dropM c p
theorem names_nodup (ts : List Tr) : (namesOf ts).Nodup := by
  unfold namesOf
  have h := ofL_sorted (ts.flatMap nms)
  refine List.pairwise_map.2 (h.imp fun hlt e => ?_)
  have : tl (ba _) = tl (ba _) := congrArg tl e
  rw [tl_ba, tl_ba] at this
  subst this
  exact List.lt_irrefl _ hlt
theorem pathsM_ne : ∀ {d : Nat} {a b : Tr} {p : List ByteArray}, p ∈ pathsM d a b → p ≠ []
  | 0, _, _, p, h => by simp [pathsM] at h
  | d + 1, a, b, p, h => by
    rw [pathsM, List.mem_flatMap] at h
    obtain ⟨n, _, h⟩ := h
    unfold stepP at h
    split at h
    · obtain ⟨q, hq, rfl⟩ := List.mem_map.1 h
      simp
    · obtain rfl := List.mem_singleton.1 h
      simp
theorem pathsM_self : ∀ {W d : Nat} {a : Tr}, Ok W d a → pathsM d a a = []
  | W, 0, a, _ => rfl
  | W, d + 1, a, ha => by
    rw [pathsM, List.flatMap_eq_nil_iff]
    intro n hn
    have h1 := (mem_names2 ha.sorted ha.sorted).1 hn
    unfold stepP
    cases e : kid a n with
    | none => rw [e] at h1; simp at h1
    | some x =>
      simp only
      rw [pathsM_self (ha.kid e)]
      rfl
theorem mend_ok {W d : Nat} {b c : Tr} {p : List ByteArray} (hb : Ok W d b) (hc : Ok W d c) : Ok (W + 1) d (mend b c p) := by
  unfold mend
  split
  · rename_i h
    have e : getR b p = ((getR b p).1, true) := by rw [← h]
    obtain ⟨h1, h2⟩ := getR_ok hb e
    exact putM_ok hc h1 h2
  · exact (dropM_ok hc).wide (Nat.le_succ _)
/-- The trees on the way. -/
theorem mends_ok {W d : Nat} {b : Tr} (hb : Ok W d b) : ∀ (P : List (List ByteArray)) {V : Nat} {c : Tr}, W ≤ V → Ok V d c → Ok (V + P.length) d (P.foldl (mend b) c)
  | [], V, c, _, hc => hc
  | p :: P, V, c, hV, hc => by
    have h1 := mends_ok hb P (Nat.le_succ_of_le hV) (mend_ok (hb.wide hV) hc (p := p))
    rw [List.foldl_cons, List.length_cons, show V + (P.length + 1) = V + 1 + P.length by omega]
    exact h1
theorem kid_eq_of (t : Tr) : (∀ m, kid t m = kid t m) := fun _ => rfl
theorem mend_cons {b c x y : Tr} {n : ByteArray} {p : List ByteArray} (hp : p ≠ []) (hc : kid c n = some x) (hb : kid b n = some y) : mend b c (n :: p) = withT c n (mend y x p) := by
  unfold mend
  rw [getR, hb]
  dsimp only
  split
  · rw [putM, hc]
    rfl
  · rw [dropM, hc]
    dsimp only
    rw [if_neg hp]
/-- Below one name. -/
theorem mends_below {b y : Tr} {n : ByteArray} (hb : kid b n = some y) : ∀ (q : List (List ByteArray)) {c x : Tr}, (∀ p ∈ q, p ≠ []) → Sorted c → kid c n = some x →
    Sorted ((q.map (n :: ·)).foldl (mend b) c) ∧ ∀ m, kid ((q.map (n :: ·)).foldl (mend b) c) m = if m = n then some (q.foldl (mend y) x) else kid c m
  | [], c, x, _, hs, hc => ⟨hs, fun m => by
      by_cases e : m = n
      · subst e; rw [if_pos rfl]; exact hc
      · rw [if_neg e]; rfl⟩
  | p :: q, c, x, hq, hs, hc => by
    have h1 := mend_cons (hq p List.mem_cons_self) hc hb
    obtain ⟨h2, h3⟩ := mends_below hb q (c := withT c n (mend y x p)) (x := mend y x p) (fun p hp => hq p (List.mem_cons_of_mem _ hp)) (sorted_withT hs) (by rw [kid_withT hs, if_pos rfl])
    rw [List.map_cons, List.foldl_cons, h1]
    refine ⟨h2, fun m => ?_⟩
    rw [h3 m]
    by_cases e : m = n
    · rw [if_pos e, if_pos e]; rfl
    · rw [if_neg e, if_neg e, kid_withT hs, if_neg e]
theorem mends_all {W : Nat} : ∀ {d : Nat} {a b : Tr}, Ok W d a → Ok W d b → (pathsM d a b).foldl (mend b) a = b
  | 0, a, b, ha, hb => by
    rw [show a = [] from ha, show b = [] from hb]
    rfl
  | d + 1, a, b, ha, hb => by
    have hnd := names_nodup [a, b]
    have hmem := fun n => mem_names2 (n := n) ha.sorted hb.sorted
    rw [pathsM]
    have key : ∀ (N : List ByteArray) (c : Tr), N.Nodup → Sorted c → (∀ n ∈ N, kid c n = kid a n) → Sorted ((N.flatMap (stepP (pathsM d) a b)).foldl (mend b) c) ∧ ∀ m, kid ((N.flatMap (stepP (pathsM d) a b)).foldl (mend b) c) m = if m ∈ N then kid b m else kid c m := by
      intro N
      induction N with
      | nil => intro c _ hs _; exact ⟨hs, fun m => by simp⟩
      | cons n N ih =>
        intro c hN hs hc
        obtain ⟨hn, hN⟩ := List.nodup_cons.1 hN
        have hcn := hc n List.mem_cons_self
        have one : Sorted ((stepP (pathsM d) a b n).foldl (mend b) c) ∧ ∀ m, kid ((stepP (pathsM d) a b n).foldl (mend b) c) m = if m = n then kid b n else kid c m := by
          unfold stepP
          cases ea : kid a n with
          | none =>
            rw [ea] at hcn
            simp only [List.foldl_cons, List.foldl_nil]
            unfold mend
            rw [getR_one]
            cases eb : kid b n with
            | none =>
              simp only [Option.isSome_none, Bool.false_eq_true, if_false]
              rw [dropM, hcn]
              refine ⟨hs, fun m => ?_⟩
              by_cases e : m = n
              · subst e; rw [if_pos rfl]; exact hcn
              · rw [if_neg e]
            | some y =>
              simp only [Option.isSome_some, if_true, Option.getD_some]
              rw [putM, putM]
              exact ⟨sorted_withT hs, fun m => kid_withT hs m⟩
          | some x =>
            rw [ea] at hcn
            cases eb : kid b n with
            | none =>
              simp only [List.foldl_cons, List.foldl_nil]
              unfold mend
              rw [getR_one, eb]
              simp only [Option.isSome_none, Bool.false_eq_true, if_false]
              rw [dropM, hcn]
              dsimp only
              rw [if_pos rfl]
              exact ⟨sorted_dropT hs, fun m => kid_dropT hs m⟩
            | some y =>
              dsimp only
              obtain ⟨h1, h2⟩ := mends_below eb (pathsM d x y) (fun p hp => pathsM_ne hp) hs hcn
              refine ⟨h1, fun m => ?_⟩
              rw [h2 m, mends_all (ha.kid ea) (hb.kid eb)]
        obtain ⟨h1, h2⟩ := one
        rw [List.flatMap_cons, List.foldl_append]
        obtain ⟨h3, h4⟩ := ih _ hN h1 (fun m hm => by
          rw [h2 m, if_neg (show ¬ m = n from fun e => hn (e ▸ hm))]
          exact hc m (List.mem_cons_of_mem _ hm))
        refine ⟨h3, fun m => ?_⟩
        rw [h4 m, h2 m]
        by_cases e : m = n
        · subst e
          rw [if_neg hn, if_pos rfl, if_pos List.mem_cons_self]
        · by_cases hm : m ∈ N
          · rw [if_pos hm, if_pos (List.mem_cons_of_mem _ hm)]
          · rw [if_neg hm, if_neg e, if_neg (fun h => (List.mem_cons.1 h).elim e hm)]
    obtain ⟨h1, h2⟩ := key _ a hnd ha.sorted (fun _ _ => rfl)
    refine tree_ext h1 hb.sorted fun m => ?_
    rw [h2 m]
    split
    · rfl
    · rename_i hm
      have h3 : ¬ ((kid a m).isSome = true ∨ (kid b m).isSome = true) := fun h => hm ((hmem m).2 h)
      cases ea : kid a m with
      | none =>
        cases eb : kid b m with
        | none => rfl
        | some y => rw [eb] at h3; simp at h3
      | some x => rw [ea] at h3; simp at h3
end Go.Proofs.Ytbhgocpenbibgaa.PX
-- written by wip/tools/hybrid.py (over the kit's print.py, with functions proved by hand beside it) for this claim
namespace Go.Proofs.Ytbhgocpenbibgaa.PX
open Go.RowKit Go.Proofs.YtbhgocpenbibgaaW.PrintWords Go.Proofs.YtbhgocpenbibgaaW.PrintLast Go.Proofs.YtbhgocpenbibgaaW.PrintMore
attribute [local go_sem] max2_int min2_int max_two min_two max_three min_three max_four min_four   -- for this text's walks alone
set_option linter.unusedVariables false
set_option linter.unusedSimpArgs false

/-! ### cadenceref2_Without: function 32 -/
def cadenceref2_Without.f (k : Nat) (l0 : List (S45)) (a1 : ByteArray) : Option ((List (S45))) := (cadenceref2_At.f k l0 a1).bind fun bt413 => (if bt413.2 = true then (if 0 ≤ bt413.1 then (if bt413.1 ≤ (l0.length : Int) then ((some (l0.take (bt413.1 : Int).toNat : List (S45))).bind fun y415 => (if ([] : List (S45)).length + y415.length < 3518437208883 then ((some (([] : List (S45)) ++ y415 : List (S45))).bind fun y420 => (if 0 ≤ (wrap64 (bt413.1 + 1)) then (if (wrap64 (bt413.1 + 1)) ≤ (l0.length : Int) then ((some (l0.drop ((wrap64 (bt413.1 + 1)) : Int).toNat : List (S45))).bind fun y423 => (if y420.length + y423.length < 3518437208883 then (some (y420 ++ y423)) else (none))) else (none)) else (none))) else (none))) else (none)) else (none)) else (some l0))
theorem cadenceref2_Without.mono : ∀ a0 a1 k, LeO (cadenceref2_Without.f k a0 a1) (cadenceref2_Without.f (k + 1) a0 a1) := by
  intro a0 a1 k
  unfold cadenceref2_Without.f
  repeat' first
      | (with_reducible exact cadenceref2_At.mono _ _ _)
      | (with_reducible exact LeO.refl _)
      | (with_reducible exact LeO.none _)
      | (with_reducible refine LeO.ite ?_ ?_)
      | (with_reducible refine LeO.bind ?_ (fun _ => ?_))
      | exact cadenceref2_At.mono _ _ _
      | exact LeO.none _
      | refine LeO.ite ?_ ?_
      | refine LeO.bind ?_ (fun _ => ?_)
set_option maxHeartbeats 8000000 in
set_option maxRecDepth 100000 in
theorem cadenceref2_Without.calls (k : Nat) (P0_ : Nat → Prop) (A0 : Option Addr) (c0 : Nat) (l0 : List (S45)) (a1 : ByteArray) (r : List (S45)) (w : World) (hs0 : Kd.V k45 45 w w.heap.size (fun k_ => P0_ k_) (.slice A0 l0.length c0) l0) (h : cadenceref2_Without.f k l0 a1 = some r) :
    Calls Try.prog 32 #[.slice A0 l0.length c0, .string a1] w fun e w' => ∃ v0_ : Value, e = .returned (v0_) ∧ Kd.V k45 45 w' w.heap.size (fun k_ => (P0_ k_ ∨ w.heap.size ≤ k_)) v0_ r ∧ Below w.heap.size w w' := by
  have HO0 := Aside0.mk (show Kd.V k45 45 w w.heap.size (fun k_ => (P0_ k_ ∨ w.heap.size ≤ k_)) (.slice A0 l0.length c0) l0 from Kd.V_mono hs0 (fun k_ hk => .inl hk))
  have HB := Aside0.mk (Below.refl w.heap.size w)
  have H : ((cadenceref2_At.f k l0 a1).bind fun bt413 => (if bt413.2 = true then (if 0 ≤ bt413.1 then (if bt413.1 ≤ (l0.length : Int) then ((some (l0.take (bt413.1 : Int).toNat : List (S45))).bind fun y415 => (if ([] : List (S45)).length + y415.length < 3518437208883 then ((some (([] : List (S45)) ++ y415 : List (S45))).bind fun y420 => (if 0 ≤ (wrap64 (bt413.1 + 1)) then (if (wrap64 (bt413.1 + 1)) ≤ (l0.length : Int) then ((some (l0.drop ((wrap64 (bt413.1 + 1)) : Int).toNat : List (S45))).bind fun y423 => (if y420.length + y423.length < 3518437208883 then (some (y420 ++ y423)) else (none))) else (none)) else (none))) else (none))) else (none)) else (none)) else (some l0))) = some r := h
  clear h
  replace H := Option.bind_eq_some_iff.mp H
  obtain ⟨⟨t413, t414⟩, A30, H⟩ := H
  replace H : (if t414 = true then (if 0 ≤ t413 then (if t413 ≤ (l0.length : Int) then ((some (l0.take (t413 : Int).toNat : List (S45))).bind fun y415 => (if ([] : List (S45)).length + y415.length < 3518437208883 then ((some (([] : List (S45)) ++ y415 : List (S45))).bind fun y420 => (if 0 ≤ (wrap64 (t413 + 1)) then (if (wrap64 (t413 + 1)) ≤ (l0.length : Int) then ((some (l0.drop ((wrap64 (t413 + 1)) : Int).toNat : List (S45))).bind fun y423 => (if y420.length + y423.length < 3518437208883 then (some (y420 ++ y423)) else (none))) else (none)) else (none))) else (none))) else (none)) else (none)) else (some l0)) = some r := H
  have A3 := Aside0.mk A30
  clear A30
  by_cases c4 : t414 = true
  · subst c4
    have H1 : (if 0 ≤ t413 then (if t413 ≤ (l0.length : Int) then ((some (l0.take (t413 : Int).toNat : List (S45))).bind fun y415 => (if ([] : List (S45)).length + y415.length < 3518437208883 then ((some (([] : List (S45)) ++ y415 : List (S45))).bind fun y420 => (if 0 ≤ (wrap64 (t413 + 1)) then (if (wrap64 (t413 + 1)) ≤ (l0.length : Int) then ((some (l0.drop ((wrap64 (t413 + 1)) : Int).toNat : List (S45))).bind fun y423 => (if y420.length + y423.length < 3518437208883 then (some (y420 ++ y423)) else (none))) else (none)) else (none))) else (none))) else (none)) else (none)) = some r := by rw [if_pos rfl] at H; exact H
    clear H
    have H := H1
    clear H1
    by_cases c5 : 0 ≤ t413
    · rw [if_pos c5] at H
      have c5b0 := eq_true c5
      have c5b1 : decide (0 ≤ t413) = true := decide_eq_true c5
      clear c5
      by_cases c6 : t413 ≤ (l0.length : Int)
      · rw [if_pos c6] at H
        have c6b0 := eq_true c6
        have c6b1 : decide (t413 ≤ (l0.length : Int)) = true := decide_eq_true c6
        clear c6
        obtain ⟨y415, hy415⟩ : ∃ y_ : List (S45), y_ = (l0.take (t413 : Int).toNat) := ⟨_, rfl⟩
        replace H : (if ([] : List (S45)).length + y415.length < 3518437208883 then ((some (([] : List (S45)) ++ y415 : List (S45))).bind fun y420 => (if 0 ≤ (wrap64 (t413 + 1)) then (if (wrap64 (t413 + 1)) ≤ (l0.length : Int) then ((some (l0.drop ((wrap64 (t413 + 1)) : Int).toNat : List (S45))).bind fun y423 => (if y420.length + y423.length < 3518437208883 then (some (y420 ++ y423)) else (none))) else (none)) else (none))) else (none)) = some r := by first | (rw [hy415]; with_reducible exact H) | (have H2_ := (Option.bind_some _ _).symm.trans H; rw [hy415]; with_reducible exact H2_) | (have H2_ := (Option.bind_some _ _).symm.trans H; with_reducible exact H2_) | with_reducible exact H | (rw [hy415]; exact H) | exact H
        have Ny415 := Aside0.mk hy415
        clear hy415
        by_cases c7 : ([] : List (S45)).length + y415.length < 3518437208883
        · rw [if_pos c7] at H
          have LMc7 := Aside0.mk c7
          clear c7
          obtain ⟨y420, hy420⟩ : ∃ y_ : List (S45), y_ = (([] : List (S45)) ++ y415) := ⟨_, rfl⟩
          replace H : (if 0 ≤ (wrap64 (t413 + 1)) then (if (wrap64 (t413 + 1)) ≤ (l0.length : Int) then ((some (l0.drop ((wrap64 (t413 + 1)) : Int).toNat : List (S45))).bind fun y423 => (if y420.length + y423.length < 3518437208883 then (some (y420 ++ y423)) else (none))) else (none)) else (none)) = some r := by first | (rw [hy420]; with_reducible exact H) | (have H2_ := (Option.bind_some _ _).symm.trans H; rw [hy420]; with_reducible exact H2_) | (have H2_ := (Option.bind_some _ _).symm.trans H; with_reducible exact H2_) | with_reducible exact H | (rw [hy420]; exact H) | exact H
          have Ny420 := Aside0.mk hy420
          clear hy420
          obtain ⟨ji8, hji8⟩ : ∃ j_ : Int, (wrap64 (t413 + 1)) = j_ := ⟨_, rfl⟩
          replace H : (if 0 ≤ (ji8) then (if (ji8) ≤ (l0.length : Int) then ((some (l0.drop ((ji8) : Int).toNat : List (S45))).bind fun y423 => (if y420.length + y423.length < 3518437208883 then (some (y420 ++ y423)) else (none))) else (none)) else (none)) = some r := by first | (rw [hji8] at H; exact H) | (simp only [hji8] at H ⊢; exact H)
          (try rw [hji8] at A3)
          have hji8w : (IntKind.i64.wrap (t413 + 1)) = ji8 := (i64_w _).trans hji8
          by_cases c9 : 0 ≤ (ji8)
          · rw [if_pos c9] at H
            have c9b0 := eq_true c9
            have c9b1 : decide (0 ≤ (ji8)) = true := decide_eq_true c9
            clear c9
            by_cases c10 : (ji8) ≤ (l0.length : Int)
            · rw [if_pos c10] at H
              have c10b0 := eq_true c10
              have c10b1 : decide ((ji8) ≤ (l0.length : Int)) = true := decide_eq_true c10
              clear c10
              obtain ⟨y423, hy423⟩ : ∃ y_ : List (S45), y_ = (l0.drop ((ji8) : Int).toNat) := ⟨_, rfl⟩
              replace H : (if y420.length + y423.length < 3518437208883 then (some (y420 ++ y423)) else (none)) = some r := by first | (rw [hy423]; with_reducible exact H) | (have H2_ := (Option.bind_some _ _).symm.trans H; rw [hy423]; with_reducible exact H2_) | (have H2_ := (Option.bind_some _ _).symm.trans H; with_reducible exact H2_) | with_reducible exact H | (rw [hy423]; exact H) | exact H
              have Ny423 := Aside0.mk hy423
              clear hy423
              by_cases c11 : y420.length + y423.length < 3518437208883
              · rw [if_pos c11] at H
                have LMc11 := Aside0.mk c11
                clear c11
                obtain ⟨y428, hy428⟩ : ∃ y_ : List (S45), y_ = (y420 ++ y423) := ⟨_, rfl⟩
                replace H : (some y428) = some r := by first | (rw [hy428]; with_reducible exact H) | (have H2_ := (Option.bind_some _ _).symm.trans H; rw [hy428]; with_reducible exact H2_) | (have H2_ := (Option.bind_some _ _).symm.trans H; with_reducible exact H2_) | with_reducible exact H | (rw [hy428]; exact H) | exact H
                have Ny428 := Aside0.mk hy428
                clear hy428
                obtain rfl := Option.some.inj H
                go_enter Try.func32, Try.ntmps32
                go_wp2_with (first | ((with_reducible refine gate_callee (f := 35) rfl ?_); refine goesL_ (some 11) rfl rfl Try.func35 (by kernel_rfl) rfl #[.slice A0 l0.length c0, .string a1] rfl (by (try simp only [List.map_toArray, List.map_cons, List.map_nil]); first | done | rfl | (simp only [List.length_drop, List.length_take]; rfl)) ?_; (with_reducible refine (cadenceref2_At.calls k _ _ l0 a1 t413 true _ ?side1 ?side2 A3.out).mono ?_); (case side1 => repeat (first | exact (Kd.V_reads' HO0.out).2.2 | (with_reducible refine cA_ ?_ _) | (with_reducible refine cN_ ?_ _) | (with_reducible refine cD_ ?_))); (case side2 => exact (Kd.V_reads' HO0.out).2.1); rintro e w' ⟨rfl, ⟨nd, rfl⟩⟩; refine ⟨_, rfl, ?_⟩; have q12 : (t413 : Int) ≤ ((l0.length : Int) : Int) := of_decide_eq_true (by first | (with_reducible assumption) | assumption); obtain ⟨i012, hi012, _, hsz12, _⟩ := info_parts info45; have hroom12 : l0.length ≤ c0 := (Kd.V_reads' HO0.out).2.1; have hC12 : Kd.F k45 _ _ A0 l0.length l0 := (Kd.V_at (base := w.heap.size) HO0.out).2.2; have hcut12 := cut_to (P := Try.prog) 26 45 .i64 Try.underlying26 hi012 A0 l0.length c0 t413 (of_decide_eq_true (by first | (with_reducible assumption) | assumption)) q12 hroom12; have hr12 := Kd.F_take (m := (t413 : Int).toNat) hC12 (by omega); have hy12 : y415.length = (t413 : Int).toNat := (by rw [Ny415.out, List.length_take]; omega); rw [← Ny415.out] at hr12; rw [← hy12] at hcut12; have HO419 := Aside0.mk (show Kd.V k45 45 _ w.heap.size _ (.slice A0 y415.length c0) y415 from Kd.V_mk (by omega) hr12); have HC419 := Aside0.mk (show y415.length ≤ c0 from by omega); clear hr12 hC12 hroom12 hi012 hsz12; have KY12 := Aside0.mk hy12; clear hy12; replace q12 := eq_true q12) | ((with_reducible refine gate_builtin (b := .append) (xs := #[.tmp 17, .tmp 20]) rfl ?_); at_builtin; refine Kd.N_append_rows k45 (w0 := w) w.heap.size rfl (.tmp 17) (.tmp 20) 26 45 (.agg #[(.string ⟨#[]⟩), (.slice none 0 0)]) 40 rfl Try.underlying26 info45 rfl (by decide) (by omega) (.slice none 0 0) ([] : List (S45)) y415 _ _ _ (fun k_ => (P0_ k_ ∨ w.heap.size ≤ k_)) (fun k_ => ((fun k_ => (P0_ k_ ∨ w.heap.size ≤ k_))) k_ ∧ some k_ ≠ (.slice none 0 0 : Value).ownBlock) rfl rfl ?aO ?aR (fun _ hk => hk) ?aF ?aB ?aS ?aL ?_; (case aR => exact (by (with_reducible repeat (first | apply Kd.F_alloc | apply Kd.F_drewN | apply Kd.F_drew)); exact Kd.V_F (Kd.V_mono (ok' := (fun k_ => ((fun k_ => (P0_ k_ ∨ w.heap.size ≤ k_))) k_ ∧ some k_ ≠ (.slice none 0 0 : Value).ownBlock)) (HO419.out) (fun k_ hk => ⟨hk, (by simp [Value.ownBlock])⟩)))); (case aB => exact (by repeat (first | (with_reducible first | exact HB.out | apply bA_ | apply bN_ | apply bD_) | exact HB.out))); (case aF => exact (fun k_ hk => (.inr (Nat.le_trans (below_size (by repeat (first | (with_reducible first | exact HB.out | apply bA_ | apply bN_ | apply bD_) | exact HB.out))) hk)))); (case aO => exact ((Kd.N_nil _ _ _ _ (fun k_ => (P0_ k_ ∨ w.heap.size ≤ k_))))); (case aS => exact (below_size (by repeat (first | (with_reducible first | exact HB.out | apply bA_ | apply bN_ | apply bD_) | exact HB.out)))); (case aL => have := LMc7.out; omega); intro v421 w13 ho hb hg hat; rw [← Ny420.out] at ho; have n0_ := Aside0.mk (Kd.V_afterv (Kd.V_apart_nil (by (with_reducible repeat (first | apply vA_ | apply vN_ | apply vD_)); exact HO0.out)) hg hat); have n1_ := Aside0.mk (Kd.V_afterv (Kd.V_apart_nil (by (with_reducible repeat (first | apply vA_ | apply vN_ | apply vD_)); exact HO419.out)) hg hat); have n2_ := Aside0.mk (hb); have n3_ := Aside0.mk (ho); clear HO0; clear HO419; clear HB; have HO0 := n0_; have HO419 := n1_; have HB := n2_; have HO422 := n3_; clear n0_ n1_ n2_ n3_; clear ho hb hg hat; have q14 : ((ji8) : Int) ≤ ((l0.length : Int) : Int) := of_decide_eq_true (by first | (with_reducible assumption) | assumption); obtain ⟨i014, hi014, _, hsz14, _⟩ := info_parts info45; have hroom14 : l0.length ≤ c0 := (Kd.V_reads' HO0.out).2.1; have hC14 : Kd.F k45 _ _ A0 l0.length l0 := (Kd.V_at (base := w.heap.size) HO0.out).2.2; have q014 : (0 : Int) ≤ ((ji8) : Int) := of_decide_eq_true (by first | (with_reducible assumption) | assumption); have hcut14 := cut_from (P := Try.prog) 26 45 .i64 Try.underlying26 hi014 2 hsz14 A0 l0.length c0 (ji8) q014 q14; have hr14 := Kd.F_cut (m := ((ji8) : Int).toNat) (c := c0) hC14 (by omega) hroom14; obtain ⟨A14, hA14⟩ : ∃ A1, A1 = (if c0 = ((ji8) : Int).toNat then A0 else (A0 : Option Addr).map (·.add (((ji8) : Int).toNat * 2))) := ⟨_, rfl⟩; obtain ⟨c14, hc14⟩ : ∃ c1, c1 = c0 - ((ji8) : Int).toNat := ⟨_, rfl⟩; have hy14 : y423.length = l0.length - ((ji8) : Int).toNat := (by rw [Ny423.out, List.length_drop] <;> omega); rw [show (l0).drop ((ji8) : Int).toNat = y423 from Ny423.out.symm] at hr14; replace hr14 : Kd.F k45 _ _ A14 y423.length y423 := (by rw [hA14]; exact hr14); rw [← hy14, ← hA14, ← hc14] at hcut14; have HO427 := Aside0.mk (show Kd.V k45 45 _ w.heap.size _ (.slice A14 y423.length c14) y423 from Kd.V_mk (by rw [hy14, hc14]; exact Nat.sub_le_sub_right hroom14 _) hr14); have HC427 := Aside0.mk (show y423.length ≤ c14 from by rw [hy14, hc14]; exact Nat.sub_le_sub_right hroom14 _); clear hr14 hC14 hroom14 hi014 hsz14 hc14; have KY14 := Aside0.mk hy14; have KA14 := Aside0.mk hA14; clear hy14 hA14; replace q14 := eq_true q14) | ((with_reducible refine gate_builtin (b := .append) (xs := #[.tmp 22, .tmp 26]) rfl ?_); at_builtin; refine Kd.N_append_rows k45 (w0 := w) w.heap.size rfl (.tmp 22) (.tmp 26) 26 45 (.agg #[(.string ⟨#[]⟩), (.slice none 0 0)]) 40 rfl Try.underlying26 info45 rfl (by decide) (by omega) v421 y420 y423 _ _ _ (fun k_ => (P0_ k_ ∨ w.heap.size ≤ k_)) (fun k_ => ((fun k_ => (P0_ k_ ∨ w.heap.size ≤ k_))) k_ ∧ some k_ ≠ (v421 : Value).ownBlock) rfl rfl ?aO ?aR (fun _ hk => hk) ?aF ?aB ?aS ?aL ?_; (case aR => exact (by (with_reducible repeat (first | apply Kd.F_alloc | apply Kd.F_drewN | apply Kd.F_drew)); exact Kd.V_F (Kd.V_mono (ok' := (fun k_ => ((fun k_ => (P0_ k_ ∨ w.heap.size ≤ k_))) k_ ∧ some k_ ≠ (v421 : Value).ownBlock)) (HO427.out) (fun k_ hk => ⟨hk.1, hk.2⟩)))); (case aB => exact (by repeat (first | (with_reducible first | exact HB.out | apply bA_ | apply bN_ | apply bD_) | exact HB.out))); (case aF => exact (fun k_ hk => (.inr (Nat.le_trans (below_size (by repeat (first | (with_reducible first | exact HB.out | apply bA_ | apply bN_ | apply bD_) | exact HB.out))) hk)))); (case aO => exact (by (with_reducible repeat (first | apply nA_ | apply nN_ | apply nD_)); exact HO422.out)); (case aS => exact (below_size (by repeat (first | (with_reducible first | exact HB.out | apply bA_ | apply bN_ | apply bD_) | exact HB.out)))); (case aL => have := LMc11.out; omega); intro v429 w15 ho hb hg hat; rw [← Ny428.out] at ho; have n0_ := Aside0.mk (Kd.V_afterv (ok := (fun k_ => (P0_ k_ ∨ w.heap.size ≤ k_))) (by (with_reducible repeat (first | apply vA_ | apply vN_ | apply vD_)); exact HO0.out) hg hat); have n1_ := Aside0.mk (Kd.V_afterv (ok := (fun k_ => (P0_ k_ ∨ w.heap.size ≤ k_))) (by (with_reducible repeat (first | apply vA_ | apply vN_ | apply vD_)); exact HO419.out) hg hat); have n2_ := Aside0.mk (Kd.V_afterv (ok := (fun k_ => (P0_ k_ ∨ w.heap.size ≤ k_))) (by (with_reducible repeat (first | apply vA_ | apply vN_ | apply vD_)); exact HO427.out) hg hat); have n3_ := Aside0.mk (hb); have n4_ := Aside0.mk (ho); clear HO0; clear HO419; clear HO427; clear HB; clear HO422; have HO0 := n0_; have HO419 := n1_; have HO427 := n2_; have HB := n3_; have HO430 := n4_; clear n0_ n1_ n2_ n3_ n4_; clear ho hb hg hat))
                go_ret
                exact ⟨_, by first | rfl | (simp [errW_none, errW_some] <;> rfl) | (simp only [← hji8]; first | rfl | (simp [errW_none, errW_some] <;> rfl)) | (simp [*, errW_none, errW_some] <;> rfl), Kd.N_V (by (with_reducible repeat (first | apply nA_ | apply nN_ | apply nD_)); exact HO430.out), by repeat (first | (with_reducible first | exact HB.out | apply bA_ | apply bN_ | apply bD_) | exact HB.out)⟩
              · rw [if_neg c11] at H
                exact absurd H (by simp)
            · rw [if_neg c10] at H
              exact absurd H (by simp)
          · rw [if_neg c9] at H
            exact absurd H (by simp)
        · rw [if_neg c7] at H
          exact absurd H (by simp)
      · rw [if_neg c6] at H
        exact absurd H (by simp)
    · rw [if_neg c5] at H
      exact absurd H (by simp)
  · replace c4 := Bool.eq_false_iff.mpr c4
    subst c4
    have H1 : (some l0) = some r := by rw [if_neg (show ¬ (false = true) by decide)] at H; exact H
    clear H
    have H := H1
    clear H1
    obtain rfl := Option.some.inj H
    go_enter Try.func32, Try.ntmps32
    go_wp2_with (first | ((with_reducible refine gate_callee (f := 35) rfl ?_); refine goesL_ (some 11) rfl rfl Try.func35 (by kernel_rfl) rfl #[.slice A0 l0.length c0, .string a1] rfl (by (try simp only [List.map_toArray, List.map_cons, List.map_nil]); first | done | rfl | (simp only [List.length_drop, List.length_take]; rfl)) ?_; (with_reducible refine (cadenceref2_At.calls k _ _ l0 a1 t413 false _ ?side1 ?side2 A3.out).mono ?_); (case side1 => repeat (first | exact (Kd.V_reads' HO0.out).2.2 | (with_reducible refine cA_ ?_ _) | (with_reducible refine cN_ ?_ _) | (with_reducible refine cD_ ?_))); (case side2 => exact (Kd.V_reads' HO0.out).2.1); rintro e w' ⟨rfl, ⟨nd, rfl⟩⟩; refine ⟨_, rfl, ?_⟩))
    go_ret
    exact ⟨_, by first | rfl | (simp [errW_none, errW_some] <;> rfl) | (simp [*, errW_none, errW_some] <;> rfl), by (with_reducible repeat (first | apply vA_ | apply vN_ | apply vD_)); exact HO0.out, by repeat (first | (with_reducible first | exact HB.out | apply bA_ | apply bN_ | apply bD_) | exact HB.out)⟩

end Go.Proofs.Ytbhgocpenbibgaa.PX
-- written by wip/tools/hybrid.py (over the kit's print.py, with functions proved by hand beside it) for this claim
namespace Go.Proofs.Ytbhgocpenbibgaa.PX
open Go.RowKit Go.Proofs.YtbhgocpenbibgaaW.PrintWords Go.Proofs.YtbhgocpenbibgaaW.PrintLast Go.Proofs.YtbhgocpenbibgaaW.PrintMore
attribute [local go_sem] max2_int min2_int max_two min_two max_three min_three max_four min_four   -- for this text's walks alone
set_option linter.unusedVariables false
set_option linter.unusedSimpArgs false

/-! ### cadenceref2_Drop: function 16 -/
def cadenceref2_Drop.f : Nat → List (S45) → List ByteArray → Option ((List (S45)))
  | 0, _, _ => none
  | k + 1, l0, l1 => if (l1.length : Int) = 0 then (some ([] : List (S45))) else (if 0 < (l1.length : Int) then ((cadenceref2_Kid.f k l0 (rdOf ByteArray.empty l1 0)).bind fun bt432 => (if bt432.2 = true then (if (l1.length : Int) = 1 then ((cadenceref2_Without.f k l0 (rdOf ByteArray.empty l1 0)).bind fun t437 => (some t437)) else (if 1 ≤ (l1.length : Int) then ((cadenceref2_Drop.f k bt432.1 (l1.drop 1)).bind fun t442 => ((cadenceref2_With.f k l0 (rdOf ByteArray.empty l1 0) t442).bind fun t445 => (some t445))) else (none))) else (some l0))) else (none))
theorem cadenceref2_Drop.mono_l : ∀ k, (∀ y0 y1, LeO (cadenceref2_Drop.f k y0 y1) (cadenceref2_Drop.f (k + 1) y0 y1))
  | 0 => fun _ _ r h => by simp [cadenceref2_Drop.f] at h
  | k + 1 => by
    have ih0 := cadenceref2_Drop.mono_l k
    · intro y0 y1
      unfold cadenceref2_Drop.f
      repeat' first
      | (with_reducible exact ih0 _ _)
      | (with_reducible exact cadenceref2_Kid.mono _ _ _)
      | (with_reducible exact cadenceref2_With.mono _ _ _ _)
      | (with_reducible exact cadenceref2_Without.mono _ _ _)
      | (with_reducible exact LeO.refl _)
      | (with_reducible exact LeO.none _)
      | (with_reducible refine LeO.ite ?_ ?_)
      | (with_reducible refine LeO.bind ?_ (fun _ => ?_))
      | exact ih0 _ _
      | exact cadenceref2_Kid.mono _ _ _
      | exact cadenceref2_With.mono _ _ _ _
      | exact cadenceref2_Without.mono _ _ _
      | exact LeO.none _
      | refine LeO.ite ?_ ?_
      | refine LeO.bind ?_ (fun _ => ?_)
theorem cadenceref2_Drop.mono : ∀ a0 a1 k, LeO (cadenceref2_Drop.f k a0 a1) (cadenceref2_Drop.f (k + 1) a0 a1) := by
  intro a0 a1 k
  have ih0 := cadenceref2_Drop.mono_l k
  exact ih0 a0 a1
def cadenceref2_Drop.T8 : Bool × List (List Nat × List Nat) := (true, [([], []), ([], []), ([1], [1]), ([2], [2]), ([], []), ([], []), ([5], [5]), ([4, 6], [4, 6]), ([0, 3, 7, 7], [0, 3, 7]), ([8, 8, 0, 1, 2, 3, 4, 5, 6, 7, 8], [8])])
def cadenceref2_Drop.B8 : List Nat := [0, 0, 2, 6, 0, 0, 32, 112, 255, 511]
theorem cadenceref2_Drop.tab8 : rtab .any (opsOf Try.f16 8) = cadenceref2_Drop.T8 := by kernel_rfl
theorem cadenceref2_Drop.bits8 : waitsOk cadenceref2_Drop.T8.2 cadenceref2_Drop.B8 = true := by kernel_rfl
set_option maxHeartbeats 8000000 in
set_option maxRecDepth 100000 in
theorem cadenceref2_Drop.calls (k : Nat) : ∀ (P0_ : Nat → Prop) (A0 : Option Addr) (c0 : Nat) (l0 : List (S45)) (A1 : Option Addr) (c1 : Nat) (l1 : List ByteArray) (r : List (S45)) (w : World) (hs0 : Kd.V k45 45 w w.heap.size (fun k_ => P0_ k_) (.slice A0 l0.length c0) l0) (hr1 : Kd.C Kd.string w A1 l1.length l1) (hc1 : l1.length ≤ c1) (h : cadenceref2_Drop.f k l0 l1 = some r),
    Calls Try.prog 16 #[.slice A0 l0.length c0, .slice A1 l1.length c1] w fun e w' => ∃ v0_ : Value, e = .returned (v0_) ∧ Kd.V k45 45 w' w.heap.size (fun k_ => (P0_ k_ ∨ w.heap.size ≤ k_)) v0_ r ∧ Below w.heap.size w w' := by
  induction k using Nat.strongRecOn with
  | _ k ih =>
  intro P0_ A0 c0 l0 A1 c1 l1 r w hs0 hr1 hc1 h
  cases k with
  | zero => exact absurd h (by simp [cadenceref2_Drop.f])
  | succ k =>
  simp only [cadenceref2_Drop.f] at h
  have HO0 := Aside0.mk (show Kd.V k45 45 w w.heap.size (fun k_ => (P0_ k_ ∨ w.heap.size ≤ k_)) (.slice A0 l0.length c0) l0 from Kd.V_mono hs0 (fun k_ hk => .inl hk))
  have HR1 := Aside0.mk hr1
  have HC1 := Aside0.mk hc1
  clear hr1 hc1
  have HB := Aside0.mk (Below.refl w.heap.size w)
  have H : (if (l1.length : Int) = 0 then (some ([] : List (S45))) else (if 0 < (l1.length : Int) then ((cadenceref2_Kid.f k l0 (rdOf ByteArray.empty l1 0)).bind fun bt432 => (if bt432.2 = true then (if (l1.length : Int) = 1 then ((cadenceref2_Without.f k l0 (rdOf ByteArray.empty l1 0)).bind fun t437 => (some t437)) else (if 1 ≤ (l1.length : Int) then ((cadenceref2_Drop.f k bt432.1 (l1.drop 1)).bind fun t442 => ((cadenceref2_With.f k l0 (rdOf ByteArray.empty l1 0) t442).bind fun t445 => (some t445))) else (none))) else (some l0))) else (none))) = some r := h
  clear h
  by_cases c3 : (l1.length : Int) = 0
  · rw [if_pos c3] at H
    have c3b0 : ((l1.length : Int) == 0) = true := beq_iff_eq.mpr c3
    have c3b1 : ((l1.length : Int) != 0) = false := bne_eq_false_iff_eq.mpr c3
    clear c3
    obtain rfl := Option.some.inj H
    go_enter Try.func16, Try.ntmps16
    go_wp2
    go_ret
    exact ⟨_, by first | rfl | (simp [errW_none, errW_some] <;> rfl) | (simp [*, errW_none, errW_some] <;> rfl), Kd.N_V (e := 0) (base := w.heap.size) (base' := w.heap.size) (by first | exact Kd.R_nil _ _ _ _ _ | exact Kd.N_nil _ _ _ _ _ | exact Kd.V_nil _ _ _ _ _ | exact Kd.Q_nil _ _ _ _ _ | exact Kd.S_nil _ _ _ _ _), by repeat (first | (with_reducible first | exact HB.out | apply bA_ | apply bN_ | apply bD_) | exact HB.out)⟩
  · rw [if_neg c3] at H
    have c3b0 : ((l1.length : Int) == 0) = false := beq_eq_false_iff_ne.mpr c3
    have c3b1 : ((l1.length : Int) != 0) = true := bne_iff_ne.mpr c3
    have c3b2 : ¬ (l1 = []) := fun h_ => c3 (by rw [h_]; rfl)
    by_cases c4 : 0 < (l1.length : Int)
    · rw [if_pos c4] at H
      have c4b0 : decide (0 < (l1.length : Int)) = true := decide_eq_true c4
      have c4b1 : decide (0 < l1.length) = true := decide_eq_true (by omega)
      clear c4
      replace H := Option.bind_eq_some_iff.mp H
      obtain ⟨⟨t432, t435⟩, A50, H⟩ := H
      replace H : (if t435 = true then (if (l1.length : Int) = 1 then ((cadenceref2_Without.f k l0 (rdOf ByteArray.empty l1 0)).bind fun t437 => (some t437)) else (if 1 ≤ (l1.length : Int) then ((cadenceref2_Drop.f k t432 (l1.drop 1)).bind fun t442 => ((cadenceref2_With.f k l0 (rdOf ByteArray.empty l1 0) t442).bind fun t445 => (some t445))) else (none))) else (some l0)) = some r := H
      have A5 := Aside0.mk A50
      clear A50
      by_cases c6 : t435 = true
      · subst c6
        have H1 : (if (l1.length : Int) = 1 then ((cadenceref2_Without.f k l0 (rdOf ByteArray.empty l1 0)).bind fun t437 => (some t437)) else (if 1 ≤ (l1.length : Int) then ((cadenceref2_Drop.f k t432 (l1.drop 1)).bind fun t442 => ((cadenceref2_With.f k l0 (rdOf ByteArray.empty l1 0) t442).bind fun t445 => (some t445))) else (none))) = some r := by rw [if_pos rfl] at H; exact H
        clear H
        have H := H1
        clear H1
        by_cases c7 : (l1.length : Int) = 1
        · rw [if_pos c7] at H
          have c7b0 : ((l1.length : Int) == 1) = true := beq_iff_eq.mpr c7
          have c7b1 : ((l1.length : Int) != 1) = false := bne_eq_false_iff_eq.mpr c7
          clear c7
          replace H := Option.bind_eq_some_iff.mp H
          obtain ⟨t437, A80, H⟩ := H
          replace H : (some t437) = some r := H
          have A8 := Aside0.mk A80
          clear A80
          obtain rfl := Option.some.inj H
          have p431 : 0 ≤ (0 : Int) := (by omega)
          have q431 : 0 < (l1.length : Int) := of_decide_eq_true (by first | (with_reducible assumption) | assumption)
          obtain ⟨ad431, e431, hx431_0⟩ := Kd.at_string HR1.out 0 p431 q431
          cases e431
          have qi431 : (0 < l1.length) = True := eq_true (by omega)
          (try rw [show ((0 : Int)).toNat = 0 from rfl] at hx431_0)
          (try rw [Addr.add_zero'] at hx431_0)
          replace p431 := eq_true p431
          replace q431 := eq_true q431
          go_enter Try.func16, Try.ntmps16
          go_wp2_with (first | ((with_reducible refine gate_callee (f := 31) rfl ?_); refine goesL_ (some 15) rfl rfl Try.func31 (by kernel_rfl) rfl #[.slice A0 l0.length c0, .string (rdOf ByteArray.empty l1 0)] rfl (by (try simp only [List.map_toArray, List.map_cons, List.map_nil]); first | done | rfl | (simp only [List.length_drop, List.length_take]; rfl)) ?_; (with_reducible refine (cadenceref2_Kid.calls k (fun k_ => (P0_ k_ ∨ w.heap.size ≤ k_)) _ _ l0 (rdOf ByteArray.empty l1 0) t432 true _ ?side1 A5.out).mono ?_); (case side1 => exact HO0.out); rintro e w9 ⟨v433, rfl, ho0, hb⟩; refine ⟨_, rfl, ?_⟩; have n0_ := Aside0.mk (Kd.V_below (by (with_reducible repeat (first | apply vA_ | apply vN_ | apply vD_)); exact HO0.out) hb); have n1_ := Aside0.mk (Kd.V_lower (Kd.V_mono (ok' := fun k_ => (P0_ k_ ∨ w.heap.size ≤ k_)) ho0 (fun k_ hk_ => Or.elim hk_ (fun hs_ => hs_) (fun hn_ => (.inr (Nat.le_trans (below_size (by repeat (first | (with_reducible first | exact HB.out | apply bA_ | apply bN_ | apply bD_) | exact HB.out))) hn_))))) (below_size (by repeat (first | (with_reducible first | exact HB.out | apply bA_ | apply bN_ | apply bD_) | exact HB.out)))); have n2_ := Aside0.mk (below_step (by repeat (first | (with_reducible first | exact HB.out | apply bA_ | apply bN_ | apply bD_) | exact HB.out)) hb); clear HO0; clear HB; have HO0 := n0_; have HO434 := n1_; have HB := n2_; clear n0_ n1_ n2_; (try clear hb); (try clear hb2); (try clear hk); (try clear hi); (try clear ho0); have p436 : 0 ≤ (0 : Int) := (by omega); have q436 : 0 < (l1.length : Int) := of_decide_eq_true (by first | (with_reducible assumption) | assumption); obtain ⟨ad436, e436, hx436_0⟩ := Kd.at_string HR1.out 0 p436 q436; obtain rfl : ad431 = ad436 := (by injection e436); have qi436 : (0 < l1.length) = True := eq_true (by omega); (try rw [show ((0 : Int)).toNat = 0 from rfl] at hx436_0); (try rw [Addr.add_zero'] at hx436_0); replace hx436_0 := (HB.out.cell (World.block_lt_of_cell? w _ hx436_0)).trans hx436_0; replace p436 := eq_true p436; replace q436 := eq_true q436) | ((with_reducible refine gate_callee (f := 32) rfl ?_); refine goesL_ (some 28) rfl rfl Try.func32 (by kernel_rfl) rfl #[.slice A0 l0.length c0, .string (rdOf ByteArray.empty l1 0)] rfl (by (try simp only [List.map_toArray, List.map_cons, List.map_nil]); first | done | rfl | (simp only [List.length_drop, List.length_take]; rfl)) ?_; (with_reducible refine (cadenceref2_Without.calls k (fun k_ => (P0_ k_ ∨ w.heap.size ≤ k_)) _ _ l0 (rdOf ByteArray.empty l1 0) t437 _ ?side1 A8.out).mono ?_); (case side1 => exact HO0.out); rintro e w10 ⟨v438, rfl, ho0, hb⟩; refine ⟨_, rfl, ?_⟩; have n0_ := Aside0.mk (Kd.V_below (by (with_reducible repeat (first | apply vA_ | apply vN_ | apply vD_)); exact HO0.out) hb); have n1_ := Aside0.mk (Kd.V_below (by (with_reducible repeat (first | apply vA_ | apply vN_ | apply vD_)); exact HO434.out) hb); have n2_ := Aside0.mk (Kd.V_lower (Kd.V_mono (ok' := fun k_ => (P0_ k_ ∨ w.heap.size ≤ k_)) ho0 (fun k_ hk_ => Or.elim hk_ (fun hs_ => hs_) (fun hn_ => (.inr (Nat.le_trans (below_size (by repeat (first | (with_reducible first | exact HB.out | apply bA_ | apply bN_ | apply bD_) | exact HB.out))) hn_))))) (below_size (by repeat (first | (with_reducible first | exact HB.out | apply bA_ | apply bN_ | apply bD_) | exact HB.out)))); have n3_ := Aside0.mk (below_step (by repeat (first | (with_reducible first | exact HB.out | apply bA_ | apply bN_ | apply bD_) | exact HB.out)) hb); clear HO0; clear HO434; clear HB; have HO0 := n0_; have HO434 := n1_; have HO439 := n2_; have HB := n3_; clear n0_ n1_ n2_ n3_; (try clear hb); (try clear hb2); (try clear hk); (try clear hi); (try clear ho0)))
          go_ret
          exact ⟨_, by first | rfl | (simp [errW_none, errW_some] <;> rfl) | (simp [*, errW_none, errW_some] <;> rfl), by (with_reducible repeat (first | apply vA_ | apply vN_ | apply vD_)); exact HO439.out, by repeat (first | (with_reducible first | exact HB.out | apply bA_ | apply bN_ | apply bD_) | exact HB.out)⟩
        · rw [if_neg c7] at H
          have c7b0 : ((l1.length : Int) == 1) = false := beq_eq_false_iff_ne.mpr c7
          have c7b1 : ((l1.length : Int) != 1) = true := bne_iff_ne.mpr c7
          by_cases c11 : 1 ≤ (l1.length : Int)
          · rw [if_pos c11] at H
            have c11b0 := eq_true c11
            have c11b1 : decide (1 ≤ (l1.length : Int)) = true := decide_eq_true c11
            clear c11
            replace H := Option.bind_eq_some_iff.mp H
            obtain ⟨t442, A120, H⟩ := H
            replace H : ((cadenceref2_With.f k l0 (rdOf ByteArray.empty l1 0) t442).bind fun t445 => (some t445)) = some r := H
            have A12 := Aside0.mk A120
            clear A120
            replace H := Option.bind_eq_some_iff.mp H
            obtain ⟨t445, A130, H⟩ := H
            replace H : (some t445) = some r := H
            have A13 := Aside0.mk A130
            clear A130
            obtain rfl := Option.some.inj H
            have p431 : 0 ≤ (0 : Int) := (by omega)
            have q431 : 0 < (l1.length : Int) := of_decide_eq_true (by first | (with_reducible assumption) | assumption)
            obtain ⟨ad431, e431, hx431_0⟩ := Kd.at_string HR1.out 0 p431 q431
            cases e431
            have qi431 : (0 < l1.length) = True := eq_true (by omega)
            (try rw [show ((0 : Int)).toNat = 0 from rfl] at hx431_0)
            (try rw [Addr.add_zero'] at hx431_0)
            replace p431 := eq_true p431
            replace q431 := eq_true q431
            go_enter Try.func16, Try.ntmps16
            try go_wp2_with (first | ((with_reducible refine gate_callee (f := 31) rfl ?_); refine goesL_ (some 15) rfl rfl Try.func31 (by kernel_rfl) rfl #[.slice A0 l0.length c0, .string (rdOf ByteArray.empty l1 0)] rfl (by (try simp only [List.map_toArray, List.map_cons, List.map_nil]); first | done | rfl | (simp only [List.length_drop, List.length_take]; rfl)) ?_; (with_reducible refine (cadenceref2_Kid.calls k (fun k_ => (P0_ k_ ∨ w.heap.size ≤ k_)) _ _ l0 (rdOf ByteArray.empty l1 0) t432 true _ ?side1 A5.out).mono ?_); (case side1 => exact HO0.out); rintro e w14 ⟨v433, rfl, ho0, hb⟩; refine ⟨_, rfl, ?_⟩; have n0_ := Aside0.mk (Kd.V_below (by (with_reducible repeat (first | apply vA_ | apply vN_ | apply vD_)); exact HO0.out) hb); have n1_ := Aside0.mk (Kd.V_lower (Kd.V_mono (ok' := fun k_ => (P0_ k_ ∨ w.heap.size ≤ k_)) ho0 (fun k_ hk_ => Or.elim hk_ (fun hs_ => hs_) (fun hn_ => (.inr (Nat.le_trans (below_size (by repeat (first | (with_reducible first | exact HB.out | apply bA_ | apply bN_ | apply bD_) | exact HB.out))) hn_))))) (below_size (by repeat (first | (with_reducible first | exact HB.out | apply bA_ | apply bN_ | apply bD_) | exact HB.out)))); have n2_ := Aside0.mk (below_step (by repeat (first | (with_reducible first | exact HB.out | apply bA_ | apply bN_ | apply bD_) | exact HB.out)) hb); clear HO0; clear HB; have HO0 := n0_; have HO434 := n1_; have HB := n2_; clear n0_ n1_ n2_; (try clear hb); (try clear hb2); (try clear hk); (try clear hi); (try clear ho0)))
            have n0_ := Aside0.mk (vD_ HO0.out)
            have n1_ := Aside0.mk (vD_ HO434.out)
            have n2_ := Aside0.mk (bD_ HB.out)
            clear HO0
            clear HO434
            clear HB
            have HO0 := n0_
            have HO434 := n1_
            have HB := n2_
            clear n0_ n1_ n2_
            have p440 : 0 ≤ (0 : Int) := (by omega)
            have q440 : 0 < (l1.length : Int) := of_decide_eq_true (by first | (with_reducible assumption) | assumption)
            obtain ⟨ad440, e440, hx440_0⟩ := Kd.at_string HR1.out 0 p440 q440
            have hw440_0 := hx440_0
            (try rw [show ((0 : Int)).toNat = 0 from rfl] at hw440_0)
            (try rw [show 0 * 1 = 0 from rfl] at hw440_0)
            (try rw [Addr.add_zero'] at hw440_0)
            obtain rfl : ad431 = ad440 := (by injection e440)
            have qi440 : (0 < l1.length) = True := eq_true (by omega)
            (try rw [show ((0 : Int)).toNat = 0 from rfl] at hx440_0)
            (try rw [Addr.add_zero'] at hx440_0)
            replace hx440_0 := (HB.out.cell (World.block_lt_of_cell? w _ hx440_0)).trans hx440_0
            replace p440 := eq_true p440
            replace q440 := eq_true q440
            obtain ⟨i016, hi016, _, hsz16, _⟩ := info_parts info9
            obtain ⟨A16, hcut16, hA16, hC16⟩ := print_drop_of (P := Try.prog) Value.string (⟨#[]⟩ : ByteArray) 31 9 .i64 Try.underlying31 hi016 hsz16 (some ad431) c1 l1 1 (by omega) (of_decide_eq_true (by first | (with_reducible assumption) | assumption)) HC1.out
            have HR441 := Aside0.mk (Kd.C_of_reads (h1 := fun _ => rfl) (hA16 _ (Kd.reads_of_C HR1.out)))
            have HC441 := Aside0.mk hC16
            clear hA16 hC16 hi016 hsz16
            obtain ⟨Ao17, co17, eo17⟩ := Kd.V_slice HO434.out
            (first | subst eo17 | (injection eo17 with f1_ f2_ f3_; have f4_ := f1_.symm; have f5_ := f3_.symm; clear f1_ f2_ f3_; subst f4_; subst f5_))
            refine start_ (n := 10) (S := fun w' => w'.cell? ad431 = some (.string (rdOf ByteArray.empty l1 0))) (ds := []) #[false, false, false, false, false, false, false, false, false, false] (by kernel_rfl) rfl rfl (((HB.out.cell (World.block_lt_of_cell? w _ hw440_0)).trans hw440_0)) (fun hHeld => ?_); refine with_tabW cadenceref2_Drop.tab8 cadenceref2_Drop.bits8 (fun HT_ HW_ => ?_)
            generalize w14.drew = w15 at HO0 HO434 HB HR441 hx440_0 hHeld ⊢
            refine pure_ (i := 0) (N := some 29) (v := ?_) (a' := ?_) #[true, false, false, false, false, false, false, false, false, false] rfl rfl (any_of HT_.out (by kernel_rfl)) (fun _ _ _ h => h) (Or.inl ⟨by rfl, ?_⟩) ?_ ?_
            rotate_left
            · intro w'
              go_simp
              with_reducible rfl
            rotate_left
            · simp only [Act.put, List.setIfInBounds_toArray, List.set_cons_zero, List.set_cons_succ, i64_w, i32_w]
              rfl
            refine pure_ (i := 1) (N := some 30) (v := ?_) (a' := ?_) #[true, true, false, false, false, false, false, false, false, false] rfl rfl (any_of HT_.out (by kernel_rfl)) (fun _ _ _ h => h) (Or.inl ⟨by rfl, ?_⟩) ?_ ?_
            rotate_left
            · intro w'
              go_simp
              with_reducible rfl
            rotate_left
            · simp only [Act.put, List.setIfInBounds_toArray, List.set_cons_zero, List.set_cons_succ, i64_w, i32_w]
              rfl
            refine pure_ (i := 2) (N := some 31) (v := ?_) (a' := ?_) #[true, true, true, false, false, false, false, false, false, false] rfl rfl (any_of HT_.out (by kernel_rfl)) (fun _ _ _ h => h) (Or.inl ⟨by rfl, ?_⟩) ?_ ?_
            rotate_left
            · intro w'
              go_simp
              with_reducible rfl
            rotate_left
            · simp only [Act.put, List.setIfInBounds_toArray, List.set_cons_zero, List.set_cons_succ, i64_w, i32_w]
              rfl
            refine pure_ (i := 4) (N := some 33) (v := ?_) (a' := ?_) #[true, true, true, false, true, false, false, false, false, false] rfl rfl (any_of HT_.out (by kernel_rfl)) (fun _ _ _ h => h) (Or.inl ⟨by rfl, ?_⟩) ?_ ?_
            rotate_left
            · intro w'
              go_simp
              with_reducible rfl
            rotate_left
            · simp only [Act.put, List.setIfInBounds_toArray, List.set_cons_zero, List.set_cons_succ, i64_w, i32_w]
              rfl
            refine pure_ (i := 5) (N := some 34) (v := ?_) (a' := ?_) #[true, true, true, false, true, true, false, false, false, false] rfl rfl (any_of HT_.out (by kernel_rfl)) (fun _ _ _ h => h) (Or.inl ⟨by rfl, ?_⟩) ?_ ?_
            rotate_left
            · intro w'
              go_simp
              with_reducible rfl
            rotate_left
            · simp only [Act.put, List.setIfInBounds_toArray, List.set_cons_zero, List.set_cons_succ, i64_w, i32_w]
              rfl
            refine pure_ (i := 6) (N := some 35) (v := ?_) (a' := ?_) #[true, true, true, false, true, true, true, false, false, false] rfl rfl (any_of HT_.out (by kernel_rfl)) (fun _ _ _ h => h) (Or.inl ⟨by rfl, ?_⟩) ?_ ?_
            rotate_left
            · intro w'
              go_simp
              with_reducible rfl
            rotate_left
            · simp only [Act.put, List.setIfInBounds_toArray, List.set_cons_zero, List.set_cons_succ, i64_w, i32_w]
              rfl
            refine take_ (i := 3) (N := some 32) (v := ?_) (a' := ?_) #[true, true, true, true, true, true, true, false, false, false] rfl rfl (take_ofW HT_.out HW_.out (by kernel_rfl)) (fun _ _ _ h => h) (Or.inl ⟨by rfl, ?_⟩) hHeld ?_ ?_
            rotate_left
            · intro w' s0
              go_simp
              with_reducible rfl
            rotate_left
            · simp only [Act.put, List.setIfInBounds_toArray, List.set_cons_zero, List.set_cons_succ, i64_w, i32_w]
              rfl
            refine one_ (i := 7) (N := some 36) #[true, true, true, true, true, true, true, true, false, false] rfl rfl (one_of HT_.out (by kernel_rfl)) (by decide) (fun K hK => ?_)
            refine goes_ Try.func16 (by kernel_rfl) rfl #[.slice Ao17 t432.length co17, .slice A16 (l1.drop 1).length (c1 - 1)] (by rfl) rfl rfl (by (try simp only [List.map_toArray, List.map_cons, List.map_nil]); first | done | (rw [show (l1.drop 1).length = (l1.length - 1) from List.length_drop] <;> rfl) | rfl | (simp only [List.length_drop, List.length_take]; rfl)) ?_
            with_reducible refine (ih k (by omega) (fun k_ => (P0_ k_ ∨ w.heap.size ≤ k_)) _ _ t432 _ _ (l1.drop 1) t442 _ ?side1 ?side2 ?side3 A12.out).mono ?_
            (case side1 => exact HO434.out)
            (case side2 => repeat (first | exact (Kd.C_below HR441.out HB.out) | (with_reducible refine cA_ ?_ _) | (with_reducible refine cN_ ?_ _) | (with_reducible refine cD_ ?_)))
            (case side3 => exact HC441.out)
            rintro e w18 ⟨v443, rfl, ho0, hb⟩
            refine ⟨_, rfl, ?_⟩
            have n0_ := Aside0.mk (Kd.V_below (by (with_reducible repeat (first | apply vA_ | apply vN_ | apply vD_)); exact HO0.out) hb)
            have n1_ := Aside0.mk (Kd.V_below (by (with_reducible repeat (first | apply vA_ | apply vN_ | apply vD_)); exact HO434.out) hb)
            have n2_ := Aside0.mk (Kd.V_lower (Kd.V_mono (ok' := fun k_ => (P0_ k_ ∨ w.heap.size ≤ k_)) ho0 (fun k_ hk_ => Or.elim hk_ (fun hs_ => hs_) (fun hn_ => (.inr (Nat.le_trans (below_size (by repeat (first | (with_reducible first | exact HB.out | apply bA_ | apply bN_ | apply bD_) | exact HB.out))) hn_))))) (below_size (by repeat (first | (with_reducible first | exact HB.out | apply bA_ | apply bN_ | apply bD_) | exact HB.out))))
            have n3_ := Aside0.mk (below_step (by repeat (first | (with_reducible first | exact HB.out | apply bA_ | apply bN_ | apply bD_) | exact HB.out)) hb)
            clear HO0
            clear HO434
            clear HB
            have HO0 := n0_
            have HO434 := n1_
            have HO444 := n2_
            have HB := n3_
            clear n0_ n1_ n2_ n3_
            (try clear hb)
            (try clear hb2)
            (try clear hk)
            (try clear hi)
            (try clear ho0)
            obtain ⟨Ao19, co19, eo19⟩ := Kd.V_slice HO444.out
            (first | subst eo19 | (injection eo19 with f1_ f2_ f3_; have f4_ := f1_.symm; have f5_ := f3_.symm; clear f1_ f2_ f3_; subst f4_; subst f5_))
            refine hK.out _ _ (((HB.out.cell (World.block_lt_of_cell? w _ hw440_0)).trans hw440_0)) (fun hHeld => ?_)
            clear hK K
            refine norm_ (a' := ?_) ?_ ?_
            rotate_left
            · show Act.put _ (some 36) _ = _
              simp only [Act.put, List.setIfInBounds_toArray, List.set_cons_zero, List.set_cons_succ, i64_w, i32_w]
              rfl
            refine one_ (i := 8) (N := some 37) #[true, true, true, true, true, true, true, true, true, false] rfl rfl (one_of HT_.out (by kernel_rfl)) (by decide) (fun K hK => ?_)
            refine goes_ Try.func24 (by kernel_rfl) rfl #[.slice A0 l0.length c0, .string (rdOf ByteArray.empty l1 0), .slice Ao19 t442.length co19] (by rfl) rfl rfl (by (try simp only [List.map_toArray, List.map_cons, List.map_nil]); first | done | rfl | (simp only [List.length_drop, List.length_take]; rfl)) ?_
            with_reducible refine (cadenceref2_With.calls k (fun k_ => (P0_ k_ ∨ w.heap.size ≤ k_)) _ _ l0 (rdOf ByteArray.empty l1 0) (fun k_ => (P0_ k_ ∨ w.heap.size ≤ k_)) _ _ t442 t445 _ ?side1 ?side2 A13.out).mono ?_
            (case side1 => exact HO0.out)
            (case side2 => exact HO444.out)
            rintro e w20 ⟨v446, rfl, ho0, hb⟩
            refine ⟨_, rfl, ?_⟩
            have n0_ := Aside0.mk (Kd.V_elder' (by (with_reducible repeat (first | apply vA_ | apply vN_ | apply vD_)); exact HO0.out) (Kd.N_base ho0) hb)
            have n1_ := Aside0.mk (Kd.V_elder' (by (with_reducible repeat (first | apply vA_ | apply vN_ | apply vD_)); exact HO434.out) (Kd.N_base ho0) hb)
            have n2_ := Aside0.mk (Kd.V_elder' (by (with_reducible repeat (first | apply vA_ | apply vN_ | apply vD_)); exact HO444.out) (Kd.N_base ho0) hb)
            have n3_ := Aside0.mk (Kd.N_lower (Kd.N_mono (ok' := fun k_ => (P0_ k_ ∨ w.heap.size ≤ k_)) ho0 (fun k_ hk_ => Or.elim hk_ (fun hs_ => Or.elim hs_ (fun hs_ => hs_) (fun hs_ => hs_)) (fun hn_ => (.inr (Nat.le_trans (below_size (by repeat (first | (with_reducible first | exact HB.out | apply bA_ | apply bN_ | apply bD_) | exact HB.out))) hn_))))) (below_size (by repeat (first | (with_reducible first | exact HB.out | apply bA_ | apply bN_ | apply bD_) | exact HB.out))))
            have n4_ := Aside0.mk (below_step (by repeat (first | (with_reducible first | exact HB.out | apply bA_ | apply bN_ | apply bD_) | exact HB.out)) hb)
            clear HO0
            clear HO434
            clear HO444
            clear HB
            have HO0 := n0_
            have HO434 := n1_
            have HO444 := n2_
            have HO447 := n3_
            have HB := n4_
            clear n0_ n1_ n2_ n3_ n4_
            (try clear hb)
            (try clear hb2)
            (try clear hk)
            (try clear hi)
            (try clear ho0)
            refine hK.out _ _ (((HB.out.cell (World.block_lt_of_cell? w _ hw440_0)).trans hw440_0)) (fun hHeld => ?_)
            clear hK K
            refine norm_ (a' := ?_) ?_ ?_
            rotate_left
            · show Act.put _ (some 37) _ = _
              simp only [Act.put, List.setIfInBounds_toArray, List.set_cons_zero, List.set_cons_succ, i64_w, i32_w]
              rfl
            refine pure_ (i := 9) (N := some 4) (v := ?_) (a' := ?_) #[true, true, true, true, true, true, true, true, true, true] rfl rfl (any_of HT_.out (by kernel_rfl)) (fun _ _ _ h => h) (Or.inl ⟨by rfl, ?_⟩) ?_ ?_
            rotate_left
            · intro w'
              go_simp
              with_reducible rfl
            rotate_left
            · simp only [Act.put, List.setIfInBounds_toArray, List.set_cons_zero, List.set_cons_succ, i64_w, i32_w]
              rfl
            refine done_ (done_of HT_.out (by kernel_rfl)) ?_
            try go_wp2
            go_ret
            exact ⟨_, by first | rfl | (simp [errW_none, errW_some] <;> rfl) | (simp [*, errW_none, errW_some] <;> rfl), Kd.N_V (by (with_reducible repeat (first | apply nA_ | apply nN_ | apply nD_)); exact HO447.out), by repeat (first | (with_reducible first | exact HB.out | apply bA_ | apply bN_ | apply bD_) | exact HB.out)⟩
          · rw [if_neg c11] at H
            exact absurd H (by simp)
      · replace c6 := Bool.eq_false_iff.mpr c6
        subst c6
        have H1 : (some l0) = some r := by rw [if_neg (show ¬ (false = true) by decide)] at H; exact H
        clear H
        have H := H1
        clear H1
        obtain rfl := Option.some.inj H
        have p431 : 0 ≤ (0 : Int) := (by omega)
        have q431 : 0 < (l1.length : Int) := of_decide_eq_true (by first | (with_reducible assumption) | assumption)
        obtain ⟨ad431, e431, hx431_0⟩ := Kd.at_string HR1.out 0 p431 q431
        cases e431
        have qi431 : (0 < l1.length) = True := eq_true (by omega)
        (try rw [show ((0 : Int)).toNat = 0 from rfl] at hx431_0)
        (try rw [Addr.add_zero'] at hx431_0)
        replace p431 := eq_true p431
        replace q431 := eq_true q431
        go_enter Try.func16, Try.ntmps16
        go_wp2_with (first | ((with_reducible refine gate_callee (f := 31) rfl ?_); refine goesL_ (some 15) rfl rfl Try.func31 (by kernel_rfl) rfl #[.slice A0 l0.length c0, .string (rdOf ByteArray.empty l1 0)] rfl (by (try simp only [List.map_toArray, List.map_cons, List.map_nil]); first | done | rfl | (simp only [List.length_drop, List.length_take]; rfl)) ?_; (with_reducible refine (cadenceref2_Kid.calls k (fun k_ => (P0_ k_ ∨ w.heap.size ≤ k_)) _ _ l0 (rdOf ByteArray.empty l1 0) t432 false _ ?side1 A5.out).mono ?_); (case side1 => exact HO0.out); rintro e w21 ⟨v433, rfl, ho0, hb⟩; refine ⟨_, rfl, ?_⟩; have n0_ := Aside0.mk (Kd.V_below (by (with_reducible repeat (first | apply vA_ | apply vN_ | apply vD_)); exact HO0.out) hb); have n1_ := Aside0.mk (Kd.V_lower (Kd.V_mono (ok' := fun k_ => (P0_ k_ ∨ w.heap.size ≤ k_)) ho0 (fun k_ hk_ => Or.elim hk_ (fun hs_ => hs_) (fun hn_ => (.inr (Nat.le_trans (below_size (by repeat (first | (with_reducible first | exact HB.out | apply bA_ | apply bN_ | apply bD_) | exact HB.out))) hn_))))) (below_size (by repeat (first | (with_reducible first | exact HB.out | apply bA_ | apply bN_ | apply bD_) | exact HB.out)))); have n2_ := Aside0.mk (below_step (by repeat (first | (with_reducible first | exact HB.out | apply bA_ | apply bN_ | apply bD_) | exact HB.out)) hb); clear HO0; clear HB; have HO0 := n0_; have HO434 := n1_; have HB := n2_; clear n0_ n1_ n2_; (try clear hb); (try clear hb2); (try clear hk); (try clear hi); (try clear ho0)))
        go_ret
        exact ⟨_, by first | rfl | (simp [errW_none, errW_some] <;> rfl) | (simp [*, errW_none, errW_some] <;> rfl), by (with_reducible repeat (first | apply vA_ | apply vN_ | apply vD_)); exact HO0.out, by repeat (first | (with_reducible first | exact HB.out | apply bA_ | apply bN_ | apply bD_) | exact HB.out)⟩
    · rw [if_neg c4] at H
      exact absurd H (by simp)

end Go.Proofs.Ytbhgocpenbibgaa.PX
/- The reference's Without, Drop. -/
set_option linter.unusedVariables false
namespace Go.Proofs.Ytbhgocpenbibgaa.PX
open Go.RowKit Go.Proofs.YtbhgocpenbibgaaW.PrintWords Go.Proofs.YtbhgocpenbibgaaW.PrintLast Go.Proofs.YtbhgocpenbibgaaW.PrintMore Go.Proofs.Ytbhgocpenbibgaa
theorem without_ev (t : Tr) (n : ByteArray) (hl : t.length ≤ 1000000000000) (x : Tr) (hx : kid t n = some x) : Ev (fun k => cadenceref2_Without.f k t n) (dropT t n) := by
  obtain ⟨K, hK⟩ := at_ev t n hl
  refine ⟨K, fun k hk => ?_⟩
  replace hK : cadenceref2_At.f k t n = some (((pos t n : Nat) : Int), hasAt t n) := hK k hk
  show cadenceref2_Without.f k t n = some (dropT t n)
  have e : hasAt t n = true := by rw [hasAt_kid, hx]; rfl
  obtain ⟨hlt, _⟩ := kid_pos t n x hx
  have h1 : (0 : Int) ≤ (pos t n : Nat) := by omega
  have h2 : ((pos t n : Nat) : Int) ≤ (t.length : Int) := by omega
  have h3 : ([] : Tr).length + (t.take (pos t n)).length < 3518437208883 := by rw [List.length_take, List.length_nil]; omega
  have h5 : (0 : Int) ≤ ((pos t n + 1 : Nat) : Int) := by omega
  have h6 : ((pos t n + 1 : Nat) : Int) ≤ (t.length : Int) := by omega
  have h7 : (t.take (pos t n)).length + (t.drop (pos t n + 1)).length < 3518437208883 := by rw [List.length_take, List.length_drop]; omega
  unfold cadenceref2_Without.f
  rw [hK, Option.bind_some, e, if_pos rfl, if_pos h1, if_pos h2, Int.toNat_natCast, Option.bind_some, if_pos h3, Option.bind_some, List.nil_append, wrap_succ (by omega), if_pos h5, if_pos h6, Int.toNat_natCast, Option.bind_some, if_pos h7, dropT_eq, e, if_pos rfl]
theorem drop_ev {W : Nat} (hW : W ≤ 1000000000) : ∀ (p : List ByteArray) {d : Nat} {t : Tr}, Ok W d t → p.length ≤ 1000000 → Ev (fun k => cadenceref2_Drop.f k t p) (dropM t p)
  | [], d, t, ht, hp => Ev.step (f := fun _ => some []) (fun k => by simp only [cadenceref2_Drop.f]; rw [if_pos (by simp)]) (Ev.now _)
  | n :: p, d, t, ht, hp => by
    have htl := ht.length
    have hk := kid_ev t n (by omega)
    have hl : ((n :: p).length : Int) = (p.length : Int) + 1 := by simp
    have hn : rdOf ByteArray.empty (n :: p) 0 = n := rfl
    refine Ev.step (f := fun k => (cadenceref2_Kid.f k t n).bind fun u => if u.2 = true then (if (p.length : Int) + 1 = 1 then (cadenceref2_Without.f k t n).bind fun q => some q else (cadenceref2_Drop.f k u.1 p).bind fun v => (cadenceref2_With.f k t n v).bind fun q => some q) else some t) (fun k => ?_) (Ev.bind hk ?_)
    · simp only [cadenceref2_Drop.f]
      rw [hl, if_neg (by omega), if_pos (by omega), hn]
      congr 1
      funext u
      rw [if_pos (show (1 : Int) ≤ (p.length : Int) + 1 by omega)]
      rfl
    · rw [dropM]
      cases e : kid t n with
      | none => exact Ev.congr (fun k => if_neg (by simp)) (Ev.now _)
      | some x =>
        refine Ev.congr (fun k => if_pos rfl) ?_
        dsimp only
        by_cases hp0 : p = []
        · subst hp0
          rw [if_pos rfl]
          exact Ev.congr (fun k => if_pos (by simp)) (Ev.bind (without_ev t n (by omega) x e) (Ev.now _))
        · have hpl : 0 < p.length := List.length_pos_iff.2 hp0
          rw [if_neg hp0]
          exact Ev.congr (fun k => if_neg (by omega)) (Ev.bind (drop_ev hW p (ht.kidle e) (by simp at hp; omega)) (Ev.bind (with_ev t n _ (by omega)) (Ev.now _)))
end Go.Proofs.Ytbhgocpenbibgaa.PX
-- written by wip/tools/hybrid.py (over the kit's print.py, with functions proved by hand beside it) for this claim
namespace Go.Proofs.Ytbhgocpenbibgaa.PX
open Go.RowKit Go.Proofs.YtbhgocpenbibgaaW.PrintWords Go.Proofs.YtbhgocpenbibgaaW.PrintLast Go.Proofs.YtbhgocpenbibgaaW.PrintMore
attribute [local go_sem] max2_int min2_int max_two min_two max_three min_three max_four min_four   -- for this text's walks alone
set_option linter.unusedVariables false
set_option linter.unusedSimpArgs false

/-! ### cadencelaw13_known: function 8 -/
def cadencelaw13_known.f (k : Nat)  : Option (Bool) := (diff_Paths.f k ([] : List (S45)) (([(⟨(⟨#[118]⟩ : ByteArray), ([] : List (S45))⟩ : S45)] : List (S45)))).bind fun t222 => (if (t222.length : Int) = 1 then (if 0 < (t222.length : Int) then (if ((rd_L1 t222 0).length : Int) = 1 then (if 0 < ((rd_L1 t222 0).length : Int) then (some ((rdOf ByteArray.empty (rd_L1 t222 0) 0).toList == ([118] : List UInt8))) else (none)) else (some false)) else (none)) else (some false))
theorem cadencelaw13_known.mono : ∀ k, LeO (cadencelaw13_known.f k ) (cadencelaw13_known.f (k + 1) ) := by
  intro  k
  unfold cadencelaw13_known.f
  repeat' first
      | (with_reducible exact diff_Paths.mono _ _ _)
      | (with_reducible exact LeO.refl _)
      | (with_reducible exact LeO.none _)
      | (with_reducible refine LeO.ite ?_ ?_)
      | (with_reducible refine LeO.bind ?_ (fun _ => ?_))
      | exact diff_Paths.mono _ _ _
      | exact LeO.none _
      | refine LeO.ite ?_ ?_
      | refine LeO.bind ?_ (fun _ => ?_)
set_option maxHeartbeats 8000000 in
set_option maxRecDepth 100000 in
theorem cadencelaw13_known.calls (k : Nat)  (r : Bool) (w : World) (h : cadencelaw13_known.f k  = some r) :
    Calls Try.prog 8 #[] w fun e w' => e = .returned (.bool r) ∧ Below w.heap.size w w' := by
  have hu45 := Try.underlying45
  have HB := Aside0.mk (Below.refl w.heap.size w)
  have H : ((diff_Paths.f k ([] : List (S45)) (([(⟨(⟨#[118]⟩ : ByteArray), ([] : List (S45))⟩ : S45)] : List (S45)))).bind fun t222 => (if (t222.length : Int) = 1 then (if 0 < (t222.length : Int) then (if ((rd_L1 t222 0).length : Int) = 1 then (if 0 < ((rd_L1 t222 0).length : Int) then (some ((rdOf ByteArray.empty (rd_L1 t222 0) 0).toList == ([118] : List UInt8))) else (none)) else (some false)) else (none)) else (some false))) = some r := h
  clear h
  obtain ⟨y219, hy219⟩ : ∃ y_ : List (S45), y_ = (([(⟨(⟨#[118]⟩ : ByteArray), ([] : List (S45))⟩ : S45)] : List (S45))) := ⟨_, rfl⟩
  replace H : ((diff_Paths.f k ([] : List (S45)) y219).bind fun t222 => (if (t222.length : Int) = 1 then (if 0 < (t222.length : Int) then (if ((rd_L1 t222 0).length : Int) = 1 then (if 0 < ((rd_L1 t222 0).length : Int) then (some ((rdOf ByteArray.empty (rd_L1 t222 0) 0).toList == ([118] : List UInt8))) else (none)) else (some false)) else (none)) else (some false))) = some r := by first | (rw [hy219]; with_reducible exact H) | (have H2_ := (Option.bind_some _ _).symm.trans H; rw [hy219]; with_reducible exact H2_) | (have H2_ := (Option.bind_some _ _).symm.trans H; with_reducible exact H2_) | with_reducible exact H | (rw [hy219]; exact H) | exact H
  have Ny219 := Aside0.mk hy219
  clear hy219
  replace H := Option.bind_eq_some_iff.mp H
  obtain ⟨t222, A10, H⟩ := H
  replace H : (if (t222.length : Int) = 1 then (if 0 < (t222.length : Int) then (if ((rd_L1 t222 0).length : Int) = 1 then (if 0 < ((rd_L1 t222 0).length : Int) then (some ((rdOf ByteArray.empty (rd_L1 t222 0) 0).toList == ([118] : List UInt8))) else (none)) else (some false)) else (none)) else (some false)) = some r := H
  have A1 := Aside0.mk A10
  clear A10
  by_cases c2 : (t222.length : Int) = 1
  · rw [if_pos c2] at H
    have c2b0 : ((t222.length : Int) == 1) = true := beq_iff_eq.mpr c2
    have c2b1 : ((t222.length : Int) != 1) = false := bne_eq_false_iff_eq.mpr c2
    clear c2
    by_cases c3 : 0 < (t222.length : Int)
    · rw [if_pos c3] at H
      have c3b0 : decide (0 < (t222.length : Int)) = true := decide_eq_true c3
      have c3b1 : decide (0 < t222.length) = true := decide_eq_true (by omega)
      clear c3
      by_cases c4 : ((rd_L1 t222 0).length : Int) = 1
      · rw [if_pos c4] at H
        have c4b0 : (((rd_L1 t222 0).length : Int) == 1) = true := beq_iff_eq.mpr c4
        have c4b1 : (((rd_L1 t222 0).length : Int) != 1) = false := bne_eq_false_iff_eq.mpr c4
        clear c4
        by_cases c5 : 0 < ((rd_L1 t222 0).length : Int)
        · rw [if_pos c5] at H
          have c5b0 : decide (0 < ((rd_L1 t222 0).length : Int)) = true := decide_eq_true c5
          have c5b1 : decide (0 < (rd_L1 t222 0).length) = true := decide_eq_true (by omega)
          clear c5
          obtain rfl := Option.some.inj H
          go_enter Try.func8, Try.ntmps8
          go_wp2_with (first | ((with_reducible refine gate_dst (N := 3) rfl ?_); (try (refine gate_guard (by rfl) ?_; dsimp only)); refine Kd.N_lit k45 _ 45 ?hg (N' := 3) ?hd (xs := ([(⟨(⟨#[118]⟩ : ByteArray), ([] : List (S45))⟩ : S45)] : List (S45))) (inner := [.string (⟨#[118]⟩ : ByteArray), .slice none 0 0]) (ok := (fun _ => True)) (okp := (fun _ => True)) ?hr ?hp (fun _ hk => hk) ((show ∀ k_, w.heap.size ≤ k_ → (fun _ => True) k_ from fun k_ hk => trivial) _ (Nat.le_refl _)) (Below.refl _ _) (Nat.le_refl _) (by simp) ?_; (case hd => rfl); (case hg => rfl); (case hr => first | (go_simp; done) | (go_simp; rfl)); (case hp => exact (Reps.c2 (show Kd.FK k45 _ _ (⟨(⟨#[118]⟩ : ByteArray), ([] : List (S45))⟩ : S45) [.string (⟨#[118]⟩ : ByteArray), .slice none 0 0] from (k45_mkF _ _ (⟨(⟨#[118]⟩ : ByteArray), ([] : List (S45))⟩ : S45) (Nat.le_refl _) (Kd.F_nil _ _ _))) (Reps.none _ _))); intro v220 w6 ho7 hb hg_ hnew_; clear hg_ hnew_; (first | rw [← Ny219.out] at ho7 | (simp only [Int.reduceToNat] at ho7; rw [← Ny219.out] at ho7)); have n0_ := Aside0.mk (Kd.N_lower ho7 (below_size (by repeat (first | (with_reducible first | exact HB.out | apply bA_ | apply bN_ | apply bD_) | exact HB.out)))); have n1_ := Aside0.mk (below_step (by repeat (first | (with_reducible first | exact HB.out | apply bA_ | apply bN_ | apply bD_) | exact HB.out)) hb); clear HB; have HO221 := n0_; have HB := n1_; clear n0_ n1_; clear hb ho7; obtain ⟨Ao8, co8, eo8⟩ := Kd.N_slice HO221.out; subst eo8) | ((with_reducible refine gate_callee (f := 11) rfl ?_); refine goesL_ (some 4) rfl rfl Try.func11 (by kernel_rfl) rfl #[.slice none 0 0, .slice Ao8 y219.length co8] rfl (by (try simp only [List.map_toArray, List.map_cons, List.map_nil]); first | done | rfl | (simp only [List.length_drop, List.length_take]; rfl)) ?_; (refine (diff_Paths.calls k (fun k_ => False) _ _ ([] : List (S45)) (fun k_ => True) _ _ y219 t222 _ ?side1 ?side2 A1.out).mono ?_); (case side1 => exact Kd.V_nil _ _ _ _ _); (case side2 => exact Kd.N_V (HO221.out)); rintro e w9 ⟨v223, rfl, ho0, hb⟩; refine ⟨_, rfl, ?_⟩; have n0_ := Aside0.mk (Kd.N_elder' (by (with_reducible repeat (first | apply nA_ | apply nN_ | apply nD_)); exact HO221.out) (Kd.N_base ho0) hb); have n1_ := Aside0.mk (Kd.N_lower (Kd.N_mono (ok' := fun k_ => True) ho0 (fun k_ hk_ => trivial)) (below_size (by repeat (first | (with_reducible first | exact HB.out | apply bA_ | apply bN_ | apply bD_) | exact HB.out)))); have n2_ := Aside0.mk (below_step (by repeat (first | (with_reducible first | exact HB.out | apply bA_ | apply bN_ | apply bD_) | exact HB.out)) hb); clear HO221; clear HB; have HO221 := n0_; have HO224 := n1_; have HB := n2_; clear n0_ n1_ n2_; (try clear hb); (try clear hb2); (try clear hk); (try clear hi); (try clear ho0); obtain ⟨Ao10, co10, eo10⟩ := Kd.N_slice HO224.out; subst eo10; have p225 : 0 ≤ (0 : Int) := (by omega); have q225 : 0 < (t222.length : Int) := of_decide_eq_true (by first | (with_reducible assumption) | assumption); obtain ⟨ad225, A225_0, c225_0, e225, hx225_0, hl225_0, hi225_0⟩ := at_L1 (Kd.N_reads' HO224.out).2.2 0 p225 q225; cases e225; obtain ⟨ce225, hce225, hMe225, hcc225⟩ := Kd.N_get HO224.out [] 0 p225 (by first | exact q225 | exact of_decide_eq_true (by first | (with_reducible assumption) | assumption) | (have e_ := (Kd.N_reads' HO224.out).1; omega)); obtain ⟨ua225_0, uc225_0, rfl, ul225_0, ge225_0⟩ := Kd.FK_slice_open hMe225; have hv225_0 := hcc225 0 _ rfl; rw [Nat.add_zero, show ((Kd.slice 9 Kd.string)).sz = 1 from rfl, Nat.mul_one] at hv225_0; replace hv225_0 := Option.some.inj (hv225_0.symm.trans hx225_0); injection hv225_0 with hva_ hvn_ hvc_; rw [hva_] at ge225_0; rw [hvc_] at ul225_0; have HL225_0 := Aside0.mk (show Kd.V Kd.string 9 _ w.heap.size _ _ (rd_L1 t222 0) from Kd.V_mk ul225_0 ge225_0); clear hva_ hvn_ hvc_ ge225_0 ul225_0; clear hcc225 hce225; have qi225 : (0 < t222.length) = True := eq_true (by omega); (try rw [show ((0 : Int)).toNat = 0 from rfl] at hx225_0); (try rw [Addr.add_zero'] at hx225_0); have HR225_0 := Aside0.mk hi225_0; have HC225_0 := Aside0.mk hl225_0; clear hi225_0 hl225_0; replace p225 := eq_true p225; replace q225 := eq_true q225; have p226 : 0 ≤ (0 : Int) := (by omega); have q226 : 0 < (t222.length : Int) := of_decide_eq_true (by first | (with_reducible assumption) | assumption); obtain ⟨ad226, A226_0, c226_0, e226, hx226_0, hl226_0, hi226_0⟩ := at_L1 (Kd.N_reads' HO224.out).2.2 0 p226 q226; obtain rfl : ad225 = ad226 := (by injection e226); obtain ⟨ce226, hce226, hMe226, hcc226⟩ := Kd.N_get HO224.out [] 0 p226 (by first | exact q226 | exact of_decide_eq_true (by first | (with_reducible assumption) | assumption) | (have e_ := (Kd.N_reads' HO224.out).1; omega)); obtain ⟨ua226_0, uc226_0, rfl, ul226_0, ge226_0⟩ := Kd.FK_slice_open hMe226; have hv226_0 := hcc226 0 _ rfl; rw [Nat.add_zero, show ((Kd.slice 9 Kd.string)).sz = 1 from rfl, Nat.mul_one] at hv226_0; replace hv226_0 := Option.some.inj (hv226_0.symm.trans hx226_0); injection hv226_0 with hva_ hvn_ hvc_; rw [hva_] at ge226_0; rw [hvc_] at ul226_0; have HL226_0 := Aside0.mk (show Kd.V Kd.string 9 _ w.heap.size _ _ (rd_L1 t222 0) from Kd.V_mk ul226_0 ge226_0); clear hva_ hvn_ hvc_ ge226_0 ul226_0; clear hcc226 hce226; have qi226 : (0 < t222.length) = True := eq_true (by omega); (try rw [show ((0 : Int)).toNat = 0 from rfl] at hx226_0); (try rw [Addr.add_zero'] at hx226_0); have HR226_0 := Aside0.mk hi226_0; have HC226_0 := Aside0.mk hl226_0; clear hi226_0 hl226_0; replace p226 := eq_true p226; replace q226 := eq_true q226; have ea_ := Option.some.inj (hx225_0.symm.trans hx226_0); injection ea_ with ea_ en_ ec_; subst ea_; subst ec_; clear en_; have p227 : 0 ≤ (0 : Int) := (by omega); have q227 : 0 < ((rd_L1 t222 0).length : Int) := of_decide_eq_true (by first | (with_reducible assumption) | assumption); obtain ⟨ad227, e227, hx227_0⟩ := Kd.at_string (by repeat (first | (with_reducible exact HR226_0.out) | (with_reducible refine cA_ ?_ _) | (with_reducible refine cN_ ?_ _) | (with_reducible refine cD_ ?_) | exact HR226_0.out)) 0 p227 q227; cases e227; have qi227 : (0 < (rd_L1 t222 0).length) = True := eq_true (by omega); (try rw [show ((0 : Int)).toNat = 0 from rfl] at hx227_0); (try rw [Addr.add_zero'] at hx227_0); replace p227 := eq_true p227; replace q227 := eq_true q227))
          go_ret
          exact ⟨by first | rfl | (simp [errW_none, errW_some] <;> rfl) | (simp [*, errW_none, errW_some] <;> rfl), by repeat (first | (with_reducible first | exact HB.out | apply bA_ | apply bN_ | apply bD_) | exact HB.out)⟩
        · rw [if_neg c5] at H
          exact absurd H (by simp)
      · rw [if_neg c4] at H
        have c4b0 : (((rd_L1 t222 0).length : Int) == 1) = false := beq_eq_false_iff_ne.mpr c4
        have c4b1 : (((rd_L1 t222 0).length : Int) != 1) = true := bne_iff_ne.mpr c4
        obtain rfl := Option.some.inj H
        go_enter Try.func8, Try.ntmps8
        go_wp2_with (first | ((with_reducible refine gate_dst (N := 3) rfl ?_); (try (refine gate_guard (by rfl) ?_; dsimp only)); refine Kd.N_lit k45 _ 45 ?hg (N' := 3) ?hd (xs := ([(⟨(⟨#[118]⟩ : ByteArray), ([] : List (S45))⟩ : S45)] : List (S45))) (inner := [.string (⟨#[118]⟩ : ByteArray), .slice none 0 0]) (ok := (fun _ => True)) (okp := (fun _ => True)) ?hr ?hp (fun _ hk => hk) ((show ∀ k_, w.heap.size ≤ k_ → (fun _ => True) k_ from fun k_ hk => trivial) _ (Nat.le_refl _)) (Below.refl _ _) (Nat.le_refl _) (by simp) ?_; (case hd => rfl); (case hg => rfl); (case hr => first | (go_simp; done) | (go_simp; rfl)); (case hp => exact (Reps.c2 (show Kd.FK k45 _ _ (⟨(⟨#[118]⟩ : ByteArray), ([] : List (S45))⟩ : S45) [.string (⟨#[118]⟩ : ByteArray), .slice none 0 0] from (k45_mkF _ _ (⟨(⟨#[118]⟩ : ByteArray), ([] : List (S45))⟩ : S45) (Nat.le_refl _) (Kd.F_nil _ _ _))) (Reps.none _ _))); intro v220 w11 ho12 hb hg_ hnew_; clear hg_ hnew_; (first | rw [← Ny219.out] at ho12 | (simp only [Int.reduceToNat] at ho12; rw [← Ny219.out] at ho12)); have n0_ := Aside0.mk (Kd.N_lower ho12 (below_size (by repeat (first | (with_reducible first | exact HB.out | apply bA_ | apply bN_ | apply bD_) | exact HB.out)))); have n1_ := Aside0.mk (below_step (by repeat (first | (with_reducible first | exact HB.out | apply bA_ | apply bN_ | apply bD_) | exact HB.out)) hb); clear HB; have HO221 := n0_; have HB := n1_; clear n0_ n1_; clear hb ho12; obtain ⟨Ao13, co13, eo13⟩ := Kd.N_slice HO221.out; subst eo13) | ((with_reducible refine gate_callee (f := 11) rfl ?_); refine goesL_ (some 4) rfl rfl Try.func11 (by kernel_rfl) rfl #[.slice none 0 0, .slice Ao13 y219.length co13] rfl (by (try simp only [List.map_toArray, List.map_cons, List.map_nil]); first | done | rfl | (simp only [List.length_drop, List.length_take]; rfl)) ?_; (refine (diff_Paths.calls k (fun k_ => False) _ _ ([] : List (S45)) (fun k_ => True) _ _ y219 t222 _ ?side1 ?side2 A1.out).mono ?_); (case side1 => exact Kd.V_nil _ _ _ _ _); (case side2 => exact Kd.N_V (HO221.out)); rintro e w14 ⟨v223, rfl, ho0, hb⟩; refine ⟨_, rfl, ?_⟩; have n0_ := Aside0.mk (Kd.N_elder' (by (with_reducible repeat (first | apply nA_ | apply nN_ | apply nD_)); exact HO221.out) (Kd.N_base ho0) hb); have n1_ := Aside0.mk (Kd.N_lower (Kd.N_mono (ok' := fun k_ => True) ho0 (fun k_ hk_ => trivial)) (below_size (by repeat (first | (with_reducible first | exact HB.out | apply bA_ | apply bN_ | apply bD_) | exact HB.out)))); have n2_ := Aside0.mk (below_step (by repeat (first | (with_reducible first | exact HB.out | apply bA_ | apply bN_ | apply bD_) | exact HB.out)) hb); clear HO221; clear HB; have HO221 := n0_; have HO224 := n1_; have HB := n2_; clear n0_ n1_ n2_; (try clear hb); (try clear hb2); (try clear hk); (try clear hi); (try clear ho0); obtain ⟨Ao15, co15, eo15⟩ := Kd.N_slice HO224.out; subst eo15; have p225 : 0 ≤ (0 : Int) := (by omega); have q225 : 0 < (t222.length : Int) := of_decide_eq_true (by first | (with_reducible assumption) | assumption); obtain ⟨ad225, A225_0, c225_0, e225, hx225_0, hl225_0, hi225_0⟩ := at_L1 (Kd.N_reads' HO224.out).2.2 0 p225 q225; cases e225; obtain ⟨ce225, hce225, hMe225, hcc225⟩ := Kd.N_get HO224.out [] 0 p225 (by first | exact q225 | exact of_decide_eq_true (by first | (with_reducible assumption) | assumption) | (have e_ := (Kd.N_reads' HO224.out).1; omega)); obtain ⟨ua225_0, uc225_0, rfl, ul225_0, ge225_0⟩ := Kd.FK_slice_open hMe225; have hv225_0 := hcc225 0 _ rfl; rw [Nat.add_zero, show ((Kd.slice 9 Kd.string)).sz = 1 from rfl, Nat.mul_one] at hv225_0; replace hv225_0 := Option.some.inj (hv225_0.symm.trans hx225_0); injection hv225_0 with hva_ hvn_ hvc_; rw [hva_] at ge225_0; rw [hvc_] at ul225_0; have HL225_0 := Aside0.mk (show Kd.V Kd.string 9 _ w.heap.size _ _ (rd_L1 t222 0) from Kd.V_mk ul225_0 ge225_0); clear hva_ hvn_ hvc_ ge225_0 ul225_0; clear hcc225 hce225; have qi225 : (0 < t222.length) = True := eq_true (by omega); (try rw [show ((0 : Int)).toNat = 0 from rfl] at hx225_0); (try rw [Addr.add_zero'] at hx225_0); have HR225_0 := Aside0.mk hi225_0; have HC225_0 := Aside0.mk hl225_0; clear hi225_0 hl225_0; replace p225 := eq_true p225; replace q225 := eq_true q225))
        go_ret
        exact ⟨by first | rfl | (simp [errW_none, errW_some] <;> rfl) | (simp [*, errW_none, errW_some] <;> rfl), by repeat (first | (with_reducible first | exact HB.out | apply bA_ | apply bN_ | apply bD_) | exact HB.out)⟩
    · rw [if_neg c3] at H
      exact absurd H (by simp)
  · rw [if_neg c2] at H
    have c2b0 : ((t222.length : Int) == 1) = false := beq_eq_false_iff_ne.mpr c2
    have c2b1 : ((t222.length : Int) != 1) = true := bne_iff_ne.mpr c2
    obtain rfl := Option.some.inj H
    go_enter Try.func8, Try.ntmps8
    go_wp2_with (first | ((with_reducible refine gate_dst (N := 3) rfl ?_); (try (refine gate_guard (by rfl) ?_; dsimp only)); refine Kd.N_lit k45 _ 45 ?hg (N' := 3) ?hd (xs := ([(⟨(⟨#[118]⟩ : ByteArray), ([] : List (S45))⟩ : S45)] : List (S45))) (inner := [.string (⟨#[118]⟩ : ByteArray), .slice none 0 0]) (ok := (fun _ => True)) (okp := (fun _ => True)) ?hr ?hp (fun _ hk => hk) ((show ∀ k_, w.heap.size ≤ k_ → (fun _ => True) k_ from fun k_ hk => trivial) _ (Nat.le_refl _)) (Below.refl _ _) (Nat.le_refl _) (by simp) ?_; (case hd => rfl); (case hg => rfl); (case hr => first | (go_simp; done) | (go_simp; rfl)); (case hp => exact (Reps.c2 (show Kd.FK k45 _ _ (⟨(⟨#[118]⟩ : ByteArray), ([] : List (S45))⟩ : S45) [.string (⟨#[118]⟩ : ByteArray), .slice none 0 0] from (k45_mkF _ _ (⟨(⟨#[118]⟩ : ByteArray), ([] : List (S45))⟩ : S45) (Nat.le_refl _) (Kd.F_nil _ _ _))) (Reps.none _ _))); intro v220 w16 ho17 hb hg_ hnew_; clear hg_ hnew_; (first | rw [← Ny219.out] at ho17 | (simp only [Int.reduceToNat] at ho17; rw [← Ny219.out] at ho17)); have n0_ := Aside0.mk (Kd.N_lower ho17 (below_size (by repeat (first | (with_reducible first | exact HB.out | apply bA_ | apply bN_ | apply bD_) | exact HB.out)))); have n1_ := Aside0.mk (below_step (by repeat (first | (with_reducible first | exact HB.out | apply bA_ | apply bN_ | apply bD_) | exact HB.out)) hb); clear HB; have HO221 := n0_; have HB := n1_; clear n0_ n1_; clear hb ho17; obtain ⟨Ao18, co18, eo18⟩ := Kd.N_slice HO221.out; subst eo18) | ((with_reducible refine gate_callee (f := 11) rfl ?_); refine goesL_ (some 4) rfl rfl Try.func11 (by kernel_rfl) rfl #[.slice none 0 0, .slice Ao18 y219.length co18] rfl (by (try simp only [List.map_toArray, List.map_cons, List.map_nil]); first | done | rfl | (simp only [List.length_drop, List.length_take]; rfl)) ?_; (refine (diff_Paths.calls k (fun k_ => False) _ _ ([] : List (S45)) (fun k_ => True) _ _ y219 t222 _ ?side1 ?side2 A1.out).mono ?_); (case side1 => exact Kd.V_nil _ _ _ _ _); (case side2 => exact Kd.N_V (HO221.out)); rintro e w19 ⟨v223, rfl, ho0, hb⟩; refine ⟨_, rfl, ?_⟩; have n0_ := Aside0.mk (Kd.N_elder' (by (with_reducible repeat (first | apply nA_ | apply nN_ | apply nD_)); exact HO221.out) (Kd.N_base ho0) hb); have n1_ := Aside0.mk (Kd.N_lower (Kd.N_mono (ok' := fun k_ => True) ho0 (fun k_ hk_ => trivial)) (below_size (by repeat (first | (with_reducible first | exact HB.out | apply bA_ | apply bN_ | apply bD_) | exact HB.out)))); have n2_ := Aside0.mk (below_step (by repeat (first | (with_reducible first | exact HB.out | apply bA_ | apply bN_ | apply bD_) | exact HB.out)) hb); clear HO221; clear HB; have HO221 := n0_; have HO224 := n1_; have HB := n2_; clear n0_ n1_ n2_; (try clear hb); (try clear hb2); (try clear hk); (try clear hi); (try clear ho0); obtain ⟨Ao20, co20, eo20⟩ := Kd.N_slice HO224.out; subst eo20))
    go_ret
    exact ⟨by first | rfl | (simp [errW_none, errW_some] <;> rfl) | (simp [*, errW_none, errW_some] <;> rfl), by repeat (first | (with_reducible first | exact HB.out | apply bA_ | apply bN_ | apply bD_) | exact HB.out)⟩

end Go.Proofs.Ytbhgocpenbibgaa.PX
/- The chapter's example: the one path at which nothing and one edge differ. -/
set_option linter.unusedVariables false
namespace Go.Proofs.Ytbhgocpenbibgaa.PX
open Go.RowKit Go.Proofs.YtbhgocpenbibgaaW.PrintWords Go.Proofs.YtbhgocpenbibgaaW.PrintLast Go.Proofs.YtbhgocpenbibgaaW.PrintMore Go.Proofs.Ytbhgocpenbibgaa
theorem known_ev : Ev (fun k => cadencelaw13_known.f k) true := by
  have hb : Ok 1 1 [(⟨(⟨#[118]⟩ : ByteArray), []⟩ : Edge)] := ⟨by simp, List.pairwise_singleton _ _, fun x hx => by obtain rfl := List.mem_singleton.1 hx; rfl⟩
  have h := paths_ev (W := 1) (by omega) (by omega) (d := 1) (by omega) (by omega) (Ok.nil 1 1) hb
  have hn : namesOf [[], [(⟨(⟨#[118]⟩ : ByteArray), []⟩ : Edge)]] = [(⟨#[118]⟩ : ByteArray)] := by
    have : ofL ([[], [(⟨(⟨#[118]⟩ : ByteArray), []⟩ : Edge)]].flatMap nms) = [[118]] := by
      refine (ofL_ext (List.pairwise_singleton _ _) fun s => ?_).symm
      simp [nms, tl]
    unfold namesOf
    rw [this]
    rfl
  have hp : pathsM 1 [] [(⟨(⟨#[118]⟩ : ByteArray), []⟩ : Edge)] = [[(⟨#[118]⟩ : ByteArray)]] := by
    rw [pathsM, hn]
    simp [stepP, kid]
  rw [hp] at h
  obtain ⟨K, hK⟩ := h
  refine ⟨K, fun k hk => ?_⟩
  replace hK : diff_Paths.f k [] [(⟨(⟨#[118]⟩ : ByteArray), []⟩ : Edge)] = some [[(⟨#[118]⟩ : ByteArray)]] := hK k hk
  show cadencelaw13_known.f k = some true
  unfold cadencelaw13_known.f
  rw [hK, Option.bind_some, if_pos (by simp), if_pos (by simp)]
  have hr : rd_L1 [[(⟨#[118]⟩ : ByteArray)]] 0 = [(⟨#[118]⟩ : ByteArray)] := rfl
  rw [hr, if_pos (by simp), if_pos (by simp)]
  have h2 : rdOf ByteArray.empty [(⟨#[118]⟩ : ByteArray)] 0 = (⟨#[118]⟩ : ByteArray) := rfl
  rw [h2, toList_tl]
  rfl
end Go.Proofs.Ytbhgocpenbibgaa.PX
/- Raw trees, as they come in: what their cells hold, and that they are no larger than any machine. -/
set_option linter.unusedVariables false
set_option linter.unusedSimpArgs false
namespace Go.Proofs.Ytbhgocpenbibgaa.PX
open Go.RowKit Go.Proofs.YtbhgocpenbibgaaW.PrintWords Go.Proofs.YtbhgocpenbibgaaW.PrintLast Go.Proofs.YtbhgocpenbibgaaW.PrintMore Go.ChangeShapes Go.WideShapes Go.ChangeAt Go.Deep
abbrev Raw := S49
/-- No row in it is longer than the reach of memory. -/
inductive RawOk : List Raw → Prop
  | mk (l : List Raw) (hl : l.length ≤ 3518437208832) (hk : ∀ x ∈ l, RawOk x.f1) : RawOk l
instance : Inhabited Raw := ⟨z49⟩
section
variable {H : Type} {enc : TypeId × Value → H} {w : World}
theorem cells_at {a : Addr} {n : Nat} {cs : List Value} (h : w.cells? 0 a n = some cs) : cs.length = n ∧ ∀ i u, cs[i]? = some u → w.cell? (a.add i) = some u := by
  obtain ⟨_, h1, h2⟩ := World.cells?_some h
  exact ⟨h1, fun i u hu => (h2 i (by rw [← h1]; exact (List.getElem?_eq_some_iff.1 hu).1)).trans hu⟩
theorem add_add_ (a : Addr) (i j : Nat) : (a.add i).add j = a.add (i + j) := by
  unfold Addr.add
  by_cases hi : i = 0 <;> by_cases hj : j = 0 <;> simp [hi, hj, Nat.add_assoc]
set_option maxRecDepth 100000 in
theorem open_raws (N : Nat) : ∀ (fuel : Nat) (cs : List Value) (x : DataW H × List MemPlace), SizeOf.sizeOf x.1 < N → DataW.trod enc Try.prog w 0 (fun _ => true) true fuel 22 cs = some x →
    (∀ n ∈ x.1.weights Try.prog 22, n ≤ reachBytes) →
    ∃ (A : Option Addr) (len cap : Nat) (l : List Raw), cs = [.slice A len cap] ∧ l.length = len ∧ len ≤ cap ∧ Kd.C k49 w A len l ∧ RawOk l := by
  induction N with
  | zero => intro _ _ _ h; exact absurd h (Nat.not_lt_zero _)
  | succ N ih =>
    intro fuel cs x hN h hw
    have cR : Try.prog.cellsOf 49 = 2 := by kernel_rfl
    have bR : Try.prog.bytesOf 49 = 40 := by kernel_rfl
    have cS : Try.prog.cellsOf 9 = 1 := by kernel_rfl
    have cL : Try.prog.cellsOf 22 = 1 := by kernel_rfl
    rcases open_slice Try.underlying22 h with ⟨rfl, rfl⟩ | ⟨a, len, cap, m, n, D, Pl, rfl, _, hl, hm, hmm, hx, hel⟩
    · exact ⟨none, 0, 0, [], rfl, rfl, Nat.le_refl _, Kd.C_nil _ _, .mk _ (by simp) (by simp)⟩
    · simp only [if_true] at hmm
      subst hmm
      rw [cR] at hel
      have hd : x.1 = .slice ((List.range len).map D) ((List.range (m - len)).map fun j => D (len + j)) := by rw [hx]
      rw [hd] at hw hN
      have hw0 : len * 40 ≤ reachBytes := by
        have := hw ((((List.range len).map D).length + ((List.range (m - len)).map fun j => D (len + j)).length) * 40) (by rw [DataW.weights, Try.underlying22]; simp only [bR]; exact List.mem_cons_self)
        simp only [List.length_map, List.length_range] at this
        omega
      have hwi : ∀ i, i < len → ∀ q ∈ (D i).weights Try.prog 49, q ≤ reachBytes := by
        intro i hi q hq
        refine hw q ?_
        rw [DataW.weights, Try.underlying22]
        refine List.mem_cons_of_mem _ (List.mem_append_left _ ?_)
        have : ∀ (L : List (DataW H)), D i ∈ L → q ∈ DataW.weightsAll Try.prog 49 L := by
          intro L
          induction L with
          | nil => simp
          | cons d L ih2 =>
            intro hm
            rw [DataW.weightsAll]
            rcases List.mem_cons.1 hm with e | hm
            · exact List.mem_append_left _ (e ▸ hq)
            · exact List.mem_append_right _ (ih2 hm)
        exact this _ (List.mem_map.2 ⟨i, List.mem_range.2 hi, rfl⟩)
      have hsz : ∀ i, i < len → SizeOf.sizeOf (D i) < N := by
        intro i hi
        have h1 : SizeOf.sizeOf (D i) < SizeOf.sizeOf ((List.range len).map D) := List.sizeOf_lt_of_mem (List.mem_map.2 ⟨i, List.mem_range.2 hi, rfl⟩)
        have h2 : SizeOf.sizeOf (DataW.slice ((List.range len).map D) ((List.range (m - len)).map fun j => D (len + j))) = 1 + SizeOf.sizeOf ((List.range len).map D) + SizeOf.sizeOf ((List.range (m - len)).map fun j => D (len + j)) := by simp
        omega
      obtain ⟨f, hf⟩ := choose_lt (α := Raw) (n := len) (p := fun i q => (∃ c, c.length = 2 ∧ k49.K w q c ∧ ∀ j u, c[j]? = some u → w.cell? (a.add (i * 2 + j)) = some u) ∧ RawOk q.f1) (fun i hi => by
        obtain ⟨c, hc1, hc2⟩ := hel i (by omega)
        obtain ⟨hcl, hcc⟩ := cells_at hc1
        have hD := hwi i hi
        have hS := hsz i hi
        obtain ⟨y0, y1, n2, hy, hl2, h0, h1⟩ := trod_struct2 Try.underlying49 hc2
        have hDi : D i = .agg [y0.1, y1.1] := congrArg Prod.fst hy
        rw [hDi] at hD hS
        match c, hcl with
        | [u0, u1], _ =>
          simp only [cS, cL, List.drop_zero, List.drop_succ_cons, List.take_succ_cons, List.take_zero] at h0 h1
          obtain ⟨s, e0, _, _⟩ := DataW.trod_string Try.underlying9 h0
          obtain ⟨A1, len1, cap1, l1, e1, hl1, hc1', hC1, hR1⟩ := ih n2 _ y1 (by simp at hS; omega) h1 (fun q hq => hD q (by
            rw [DataW.weights, Try.underlying49]
            simp only [List.map_cons, List.map_nil, DataW.weightsEach]
            exact List.mem_append_right _ (List.mem_append_left _ hq)))
          injection e0 with e0
          injection e1 with e1
          subst e0 e1 hl1
          refine ⟨⟨s, l1⟩, ⟨_, rfl, k49_mk w ⟨s, l1⟩ hc1' hC1, fun j u hu => ?_⟩, hR1⟩
          have := hcc j u hu
          rwa [add_add_] at this)
      refine ⟨some a, len, m, (List.range len).map f, rfl, by simp, hl, ⟨by simp, by unfold maxLen at hm; omega, fun hp => ⟨a, rfl, fun j p hj => ?_⟩⟩, .mk _ (by simp; unfold reachBytes at hw0; omega) (fun q hq => ?_)⟩
      · rw [List.getElem?_map] at hj
        obtain ⟨j', hj', rfl⟩ := Option.map_eq_some_iff.1 hj
        have hjl : j < len := by have := (List.getElem?_eq_some_iff.1 hj').1; simpa using this
        have : j' = j := by rw [List.getElem?_range hjl] at hj'; injection hj' with hj'; exact hj'.symm
        subst this
        obtain ⟨c, h1, h2, h3⟩ := (hf j' hjl).1
        exact ⟨c, h1, h2, h3⟩
      · obtain ⟨i, hi, rfl⟩ := List.mem_map.1 hq
        exact (hf i (List.mem_range.1 hi)).2
theorem open_raw {v : Value} {d : DataW H} {p : List MemPlace} {ts : List TypeId} {ds : List (DataW H)} {j : Nat} (hv : ∃ A len cap, v = .slice A len cap) (h : DataW.Trod enc Try.prog w 0 (fun _ => true) true 22 v d p)
    (hsz : (DataW.weightsEach Try.prog ts ds).all (· ≤ reachBytes) = true) (ht : ts[j]? = some 22) (hd : ds[j]? = some d) :
    ∃ (A : Option Addr) (cap : Nat) (l : List Raw), v = .slice A l.length cap ∧ l.length ≤ cap ∧ Kd.C k49 w A l.length l ∧ RawOk l := by
  obtain ⟨A, len, cap, rfl⟩ := hv
  obtain ⟨fuel, hf⟩ := h
  obtain ⟨A', len', cap', l, e, hl, hc, hC, hR⟩ := open_raws (enc := enc) (w := w) _ fuel _ (d, p) (Nat.lt_succ_self _) hf (fun n hn => by
    have := List.all_eq_true.1 hsz _ (DataW.weights_mem_each ht hd n hn)
    simpa using this)
  simp only [Value.cells, List.cons.injEq, and_true, Value.slice.injEq] at e
  obtain ⟨rfl, rfl, rfl⟩ := e
  subst hl
  exact ⟨A, cap, l, rfl, hc, hC, hR⟩
end
end Go.Proofs.Ytbhgocpenbibgaa.PX
-- written by wip/tools/hybrid.py (over the kit's print.py, with functions proved by hand beside it) for this claim
namespace Go.Proofs.Ytbhgocpenbibgaa.PX
open Go.RowKit Go.Proofs.YtbhgocpenbibgaaW.PrintWords Go.Proofs.YtbhgocpenbibgaaW.PrintLast Go.Proofs.YtbhgocpenbibgaaW.PrintMore
attribute [local go_sem] max2_int min2_int max_two min_two max_three min_three max_four min_four   -- for this text's walks alone
set_option linter.unusedVariables false
set_option linter.unusedSimpArgs false

/-! ### cadencelaw2_Count: function 23 -/
mutual
def cadencelaw2_Count.l0 : Nat → List (S49) → Int → Int → Int → Option (Int)
  | 0, _, _, _, _ => none
  | k + 1, x0, x1, x5, x6 => if x6 < (x0.length : Int) then (if x5 < x1 then (if 0 ≤ x6 then ((cadencelaw2_Count.f k ((rd_T49 x0 x6).f1) (wrap64 (x1 - x5))).bind fun t254 => (cadencelaw2_Count.l0 k x0 x1 (wrap64 (x5 + t254)) (wrap64 (x6 + 1)))) else (none)) else (some x5)) else (some x5)
def cadencelaw2_Count.f : Nat → List (S49) → Int → Option (Int)
  | 0, _, _ => none
  | k + 1, l0, a1 => cadencelaw2_Count.l0 k l0 a1 (l0.length : Int) 0
end
theorem cadencelaw2_Count.mono_l : ∀ k, (∀ y0 y1, LeO (cadencelaw2_Count.f k y0 y1) (cadencelaw2_Count.f (k + 1) y0 y1)) ∧ (∀ y0 y1 y2 y3, LeO (cadencelaw2_Count.l0 k y0 y1 y2 y3) (cadencelaw2_Count.l0 (k + 1) y0 y1 y2 y3))
  | 0 => ⟨fun _ _ r h => by simp [cadencelaw2_Count.f] at h, fun _ _ _ _ r h => by simp [cadencelaw2_Count.l0] at h⟩
  | k + 1 => by
    obtain ⟨ih0, ih1⟩ := cadencelaw2_Count.mono_l k
    refine ⟨?_, ?_⟩
    · intro y0 y1
      unfold cadencelaw2_Count.f
      repeat' first
      | (with_reducible exact ih0 _ _)
      | (with_reducible exact ih1 _ _ _ _)
      | (with_reducible exact LeO.refl _)
      | (with_reducible exact LeO.none _)
      | (with_reducible refine LeO.ite ?_ ?_)
      | (with_reducible refine LeO.bind ?_ (fun _ => ?_))
      | exact ih0 _ _
      | exact ih1 _ _ _ _
      | exact LeO.none _
      | refine LeO.ite ?_ ?_
      | refine LeO.bind ?_ (fun _ => ?_)
    · intro y0 y1 y2 y3
      unfold cadencelaw2_Count.l0
      repeat' first
      | (with_reducible exact ih0 _ _)
      | (with_reducible exact ih1 _ _ _ _)
      | (with_reducible exact LeO.refl _)
      | (with_reducible exact LeO.none _)
      | (with_reducible refine LeO.ite ?_ ?_)
      | (with_reducible refine LeO.bind ?_ (fun _ => ?_))
      | exact ih0 _ _
      | exact ih1 _ _ _ _
      | exact LeO.none _
      | refine LeO.ite ?_ ?_
      | refine LeO.bind ?_ (fun _ => ?_)
theorem cadencelaw2_Count.mono : ∀ a0 a1 k, LeO (cadencelaw2_Count.f k a0 a1) (cadencelaw2_Count.f (k + 1) a0 a1) := by
  intro a0 a1 k
  obtain ⟨ih0, ih1⟩ := cadencelaw2_Count.mono_l k
  exact ih0 a0 a1
set_option maxHeartbeats 8000000 in
set_option maxRecDepth 100000 in
theorem cadencelaw2_Count.calls (k : Nat) : ∀ (A0 : Option Addr) (c0 : Nat) (l0 : List (S49)) (a1 : Int) (r : Int) (w : World) (hr0 : Kd.C k49 w A0 l0.length l0) (hc0 : l0.length ≤ c0) (h : cadencelaw2_Count.f k l0 a1 = some r),
    Calls Try.prog 23 #[.slice A0 l0.length c0, .int .i64 a1] w fun e w' => e = .returned (.int .i64 r) ∧ Drawn0 w w' := by
  induction k using Nat.strongRecOn with
  | _ k ih =>
  intro A0 c0 l0 a1 r w hr0 hc0 h
  cases k with
  | zero => exact absurd h (by simp [cadencelaw2_Count.f])
  | succ k =>
  simp only [cadencelaw2_Count.f] at h
  have HR0 := Aside0.mk hr0
  have HC0 := Aside0.mk hc0
  clear hr0 hc0
  have H : (cadencelaw2_Count.l0 k l0 a1 (l0.length : Int) 0) = some r := h
  clear h
  have H' := Aside0.mk H
  clear H
  go_enter Try.func23, Try.ntmps23
  go_wp2
  go_loopg [5, 6] k (fun kq v5 v6 w' => ∃ (x5_1 : Int) (x6_1 : Int), v5 = .int .i64 x5_1 ∧ v6 = .int .i64 x6_1 ∧ Aside0 (cadencelaw2_Count.l0 kq l0 a1 x5_1 x6_1 = some r) ∧ Aside0 (kq ≤ k) ∧ Drawn0 w w')
  case atStart => exact ⟨((l0.length : Int)), (0), (by first | rfl | (simp; done) | (simp [*]; done)), (by first | rfl | (simp; done) | (simp [*]; done)), H', ⟨Nat.le_refl _⟩, by repeat (first | exact Drawn0.refl _ | apply Drawn0.step)⟩
  case round =>
    clear H'
    try clear c2
    try clear p2
    obtain ⟨x5_1, x6_1, rfl, rfl, HA, HK1, ⟨m1, rfl⟩⟩ := hrel
    cases gk with
    | zero => exact absurd HA.out (by simp [cadencelaw2_Count.l0])
    | succ k1 =>
      have H := HA.out
      clear HA
      simp only [cadencelaw2_Count.l0] at H
      by_cases c3 : x6_1 < (l0.length : Int)
      · rw [if_pos c3] at H
        have c3b0 : decide (x6_1 < (l0.length : Int)) = true := decide_eq_true c3
        clear c3
        by_cases c4 : x5_1 < a1
        · rw [if_pos c4] at H
          have c4b0 : decide (x5_1 < a1) = true := decide_eq_true c4
          clear c4
          by_cases c5 : 0 ≤ x6_1
          · rw [if_pos c5] at H
            have c5b0 : decide (0 ≤ x6_1) = true := decide_eq_true c5
            clear c5
            replace H := Option.bind_eq_some_iff.mp H
            obtain ⟨t254, A60, H⟩ := H
            replace H : (cadencelaw2_Count.l0 k1 l0 a1 (wrap64 (x5_1 + t254)) (wrap64 (x6_1 + 1))) = some r := H
            have A6 := Aside0.mk A60
            clear A60
            have H' := Aside0.mk H
            clear H
            have p253 : 0 ≤ (x6_1 : Int) := of_decide_eq_true (by first | (with_reducible assumption) | assumption)
            have q253 : x6_1 < (l0.length : Int) := of_decide_eq_true (by first | (with_reducible assumption) | assumption)
            obtain ⟨ad253, A253_1, c253_1, e253, hx253_0, hx253_1, hl253_1, hi253_1⟩ := at_T49 HR0.out x6_1 p253 q253
            cases e253
            have HR253_1 := Aside0.mk hi253_1
            have HC253_1 := Aside0.mk hl253_1
            clear hi253_1 hl253_1
            replace p253 := eq_true p253
            replace q253 := eq_true q253
            go_wp2_with (first | ((with_reducible refine gate_callee (f := 23) rfl ?_); refine goesL_ (some 29) rfl rfl Try.func23 (by kernel_rfl) rfl #[.slice A253_1 ((rd_T49 l0 x6_1).f1).length c253_1, .int .i64 (wrap64 (a1 - x5_1))] rfl (by (try simp only [List.map_toArray, List.map_cons, List.map_nil]); first | done | rfl | (simp only [List.length_drop, List.length_take]; rfl)) ?_; (with_reducible refine (ih k1 (by have := HK1.out; omega) _ _ ((rd_T49 l0 x6_1).f1) (wrap64 (a1 - x5_1)) t254 _ ?side1 ?side2 A6.out).mono ?_); (case side1 => repeat (first | exact HR253_1.out | (with_reducible refine cA_ ?_ _) | (with_reducible refine cN_ ?_ _) | (with_reducible refine cD_ ?_))); (case side2 => exact HC253_1.out); rintro e w' ⟨rfl, ⟨nd, rfl⟩⟩; refine ⟨_, rfl, ?_⟩))
            go_roundg k1
            case measure => have := HK1.out; omega
            case rel => exact ⟨(wrap64 (x5_1 + t254)), (wrap64 (x6_1 + 1)), (by first | rfl | (simp; done) | (simp [*]; done)), (by first | rfl | (simp; done) | (simp [*]; done)), H', ⟨by have := HK1.out; omega⟩, by repeat (first | exact Drawn0.refl _ | apply Drawn0.step)⟩
          · rw [if_neg c5] at H
            exact absurd H (by simp)
        · rw [if_neg c4] at H
          have c4b0 : decide (x5_1 < a1) = false := decide_eq_false c4
          clear c4
          obtain rfl := Option.some.inj H
          go_wp2
          go_ret
          exact ⟨by first | rfl | (simp; done) | (simp [*]; done), by repeat (first | exact Drawn0.refl _ | apply Drawn0.step)⟩
      · rw [if_neg c3] at H
        have c3b0 : decide (x6_1 < (l0.length : Int)) = false := decide_eq_false c3
        clear c3
        obtain rfl := Option.some.inj H
        go_wp2
        go_ret
        exact ⟨by first | rfl | (simp; done) | (simp [*]; done), by repeat (first | exact Drawn0.refl _ | apply Drawn0.step)⟩

end Go.Proofs.Ytbhgocpenbibgaa.PX
-- written by wip/tools/hybrid.py (over the kit's print.py, with functions proved by hand beside it) for this claim
namespace Go.Proofs.Ytbhgocpenbibgaa.PX
open Go.RowKit Go.Proofs.YtbhgocpenbibgaaW.PrintWords Go.Proofs.YtbhgocpenbibgaaW.PrintLast Go.Proofs.YtbhgocpenbibgaaW.PrintMore
attribute [local go_sem] max2_int min2_int max_two min_two max_three min_three max_four min_four   -- for this text's walks alone
set_option linter.unusedVariables false
set_option linter.unusedSimpArgs false

/-! ### cadencelaw2_Few: function 9 -/
def cadencelaw2_Few.f (k : Nat) (l0 : List (S49)) : Option (Bool) := (cadencelaw2_Count.f k l0 200).bind fun t255 => (some (decide (t255 < 200)))
theorem cadencelaw2_Few.mono : ∀ a0 k, LeO (cadencelaw2_Few.f k a0) (cadencelaw2_Few.f (k + 1) a0) := by
  intro a0 k
  unfold cadencelaw2_Few.f
  repeat' first
      | (with_reducible exact cadencelaw2_Count.mono _ _ _)
      | (with_reducible exact LeO.refl _)
      | (with_reducible exact LeO.none _)
      | (with_reducible refine LeO.ite ?_ ?_)
      | (with_reducible refine LeO.bind ?_ (fun _ => ?_))
      | exact cadencelaw2_Count.mono _ _ _
      | exact LeO.none _
      | refine LeO.ite ?_ ?_
      | refine LeO.bind ?_ (fun _ => ?_)
set_option maxHeartbeats 8000000 in
set_option maxRecDepth 100000 in
theorem cadencelaw2_Few.calls (k : Nat) (A0 : Option Addr) (c0 : Nat) (l0 : List (S49)) (r : Bool) (w : World) (hr0 : Kd.C k49 w A0 l0.length l0) (hc0 : l0.length ≤ c0) (h : cadencelaw2_Few.f k l0 = some r) :
    Calls Try.prog 9 #[.slice A0 l0.length c0] w fun e w' => e = .returned (.bool r) ∧ Drawn0 w w' := by
  have HR0 := Aside0.mk hr0
  have HC0 := Aside0.mk hc0
  clear hr0 hc0
  have H : ((cadencelaw2_Count.f k l0 200).bind fun t255 => (some (decide (t255 < 200)))) = some r := h
  clear h
  replace H := Option.bind_eq_some_iff.mp H
  obtain ⟨t255, A20, H⟩ := H
  replace H : (some (decide (t255 < 200))) = some r := H
  have A2 := Aside0.mk A20
  clear A20
  obtain rfl := Option.some.inj H
  go_enter Try.func9, Try.ntmps9
  go_wp2_with (first | ((with_reducible refine gate_callee (f := 23) rfl ?_); refine goesL_ (some 4) rfl rfl Try.func23 (by kernel_rfl) rfl #[.slice A0 l0.length c0, .int .i64 200] rfl (by (try simp only [List.map_toArray, List.map_cons, List.map_nil]); first | done | rfl | (simp only [List.length_drop, List.length_take]; rfl)) ?_; (with_reducible refine (cadencelaw2_Count.calls k _ _ l0 200 t255 _ ?side1 ?side2 A2.out).mono ?_); (case side1 => repeat (first | exact HR0.out | (with_reducible refine cA_ ?_ _) | (with_reducible refine cN_ ?_ _) | (with_reducible refine cD_ ?_))); (case side2 => exact HC0.out); rintro e w' ⟨rfl, ⟨nd, rfl⟩⟩; refine ⟨_, rfl, ?_⟩))
  go_ret
  exact ⟨by first | rfl | (simp; done) | (simp [*]; done), by repeat (first | exact Drawn0.refl _ | apply Drawn0.step)⟩

end Go.Proofs.Ytbhgocpenbibgaa.PX
/- Raw trees counted; numbers from 0 to n - 1: what the printed functions come to. -/
set_option linter.unusedVariables false
namespace Go.Proofs.Ytbhgocpenbibgaa.PX
open Go.RowKit Go.Proofs.YtbhgocpenbibgaaW.PrintWords Go.Proofs.YtbhgocpenbibgaaW.PrintLast Go.Proofs.YtbhgocpenbibgaaW.PrintMore Go.Proofs.Ytbhgocpenbibgaa
theorem rdRaw_nat {xs : List Raw} {i : Nat} (h : i < xs.length) : rd_T49 xs (i : Int) = xs[i] := by
  simp [rd_T49, List.getD_eq_getElem?_getD, h]
theorem count_ev {l : List Raw} (h : RawOk l) : ∀ m : Int, 0 ≤ m → m ≤ 200 → ∃ c, (l.length : Int) ≤ c ∧ c ≤ m + 3518437208832 ∧ Ev (fun k => cadencelaw2_Count.f k l m) c := by
  induction h with
  | mk l hl hk ih =>
    intro m h0 h1
    have loop : ∀ (d i : Nat) (n : Int), i + d = l.length → (l.length : Int) ≤ n → n ≤ m + 3518437208832 → ∃ c, (l.length : Int) ≤ c ∧ c ≤ m + 3518437208832 ∧ Ev (fun k => cadencelaw2_Count.l0 k l m n (i : Int)) c := by
      intro d
      induction d with
      | zero =>
        intro i n hi hn0 hn1
        have e : ∀ k, cadencelaw2_Count.l0 (k + 1) l m n (i : Int) = some n := fun k => by
          simp only [cadencelaw2_Count.l0]
          rw [if_neg (by omega)]
        exact ⟨n, hn0, hn1, Ev.step e (Ev.now _)⟩
      | succ d ihd =>
        intro i n hi hn0 hn1
        have hil : i < l.length := by omega
        by_cases hn : n < m
        · obtain ⟨c1, a1, a2, a3⟩ := ih l[i] (List.getElem_mem hil) (m - n) (by omega) (by omega)
          obtain ⟨c2, b1, b2, b3⟩ := ihd (i + 1) (n + c1) (by omega) (by omega) (by omega)
          have e : ∀ k, cadencelaw2_Count.l0 (k + 1) l m n (i : Int) = (cadencelaw2_Count.f k l[i].f1 (m - n)).bind fun t => cadencelaw2_Count.l0 k l m (wrap64 (n + t)) ((i + 1 : Nat) : Int) := fun k => by
            simp only [cadencelaw2_Count.l0]
            rw [if_pos (by omega), if_pos hn, if_pos (by omega), rdRaw_nat hil, wrap_id (by omega) (by omega), wrap_succ (by omega)]
          refine ⟨c2, b1, b2, Ev.step e (Ev.bind a3 ?_)⟩
          rw [wrap_id (by omega) (by omega)]
          exact b3
        · have e : ∀ k, cadencelaw2_Count.l0 (k + 1) l m n (i : Int) = some n := fun k => by
            simp only [cadencelaw2_Count.l0]
            rw [if_pos (by omega), if_neg hn]
          exact ⟨n, hn0, hn1, Ev.step e (Ev.now _)⟩
    obtain ⟨c, c1, c2, c3⟩ := loop l.length 0 l.length (by omega) (by omega) (by omega)
    exact ⟨c, c1, c2, Ev.step (fun k => by simp only [cadencelaw2_Count.f]; rfl) c3⟩
theorem few_ev {l : List Raw} (h : RawOk l) : ∃ b, (b = true → l.length < 200) ∧ Ev (fun k => cadencelaw2_Few.f k l) b := by
  obtain ⟨c, h1, _, hc⟩ := count_ev h 200 (by omega) (by omega)
  exact ⟨decide (c < 200), fun h => by have := of_decide_eq_true h; omega, Ev.bind hc (Ev.now _)⟩
theorem RawOk.kids {l : List Raw} (h : RawOk l) : ∀ x ∈ l, RawOk x.f1 := by
  cases h with
  | mk _ _ hk => exact hk
theorem RawOk.len {l : List Raw} (h : RawOk l) : l.length ≤ 3518437208832 := by
  cases h with
  | mk _ hl _ => exact hl
theorem RawOk.append {l m : List Raw} (h : RawOk l) (h' : RawOk m) (hl : l.length < 200) (hm : m.length < 200) : RawOk (l ++ m) :=
  .mk _ (by rw [List.length_append]; omega) (fun x hx => by
    rcases List.mem_append.1 hx with hx | hx
    · exact h.kids x hx
    · exact h'.kids x hx)
theorem tmod_in (a : Int) {n : Int} (h0 : 0 < n) (h1 : n ≤ 1000000) : ∃ r, 0 ≤ r ∧ r < n ∧ (if Int.tmod a n < 0 then wrap64 (Int.tmod a n + n) else Int.tmod a n) = r := by
  have h2 := Int.tmod_lt_of_pos a h0
  have h3 := Int.lt_tmod_of_pos a h0
  split
  · exact ⟨Int.tmod a n + n, by omega, by omega, wrap_id (by omega) (by omega)⟩
  · exact ⟨_, by omega, h2, rfl⟩
end Go.Proofs.Ytbhgocpenbibgaa.PX
-- written by wip/tools/hybrid.py (over the kit's print.py, with functions proved by hand beside it) for this claim
namespace Go.Proofs.Ytbhgocpenbibgaa.PX
open Go.RowKit Go.Proofs.YtbhgocpenbibgaaW.PrintWords Go.Proofs.YtbhgocpenbibgaaW.PrintLast Go.Proofs.YtbhgocpenbibgaaW.PrintMore
attribute [local go_sem] max2_int min2_int max_two min_two max_three min_three max_four min_four   -- for this text's walks alone
set_option linter.unusedVariables false
set_option linter.unusedSimpArgs false

/-! ### cadencelaw4_within: function 25 -/
def cadencelaw4_within.f (a0 : Int) (a1 : Int) : Option (Int) := if a1 = 0 then (none) else (if (Int.tmod a0 a1) < 0 then (some (wrap64 ((Int.tmod a0 a1) + a1))) else (some (Int.tmod a0 a1)))
set_option maxHeartbeats 8000000 in
set_option maxRecDepth 100000 in
theorem cadencelaw4_within.calls (a0 : Int) (a1 : Int) (r : Int) (w : World) (h : cadencelaw4_within.f a0 a1 = some r) :
    Calls Try.prog 25 #[.int .i64 a0, .int .i64 a1] w fun e w' => e = .returned (.int .i64 r) ∧ Drawn0 w w' := by
  have H : (if a1 = 0 then (none) else (if (Int.tmod a0 a1) < 0 then (some (wrap64 ((Int.tmod a0 a1) + a1))) else (some (Int.tmod a0 a1)))) = some r := h
  clear h
  by_cases c3 : a1 = 0
  · rw [if_pos c3] at H
    exact absurd H (by simp)
  · rw [if_neg c3] at H
    have c3b0 : (a1 == 0) = false := beq_eq_false_iff_ne.mpr c3
    have c3b1 : (a1 != 0) = true := bne_iff_ne.mpr c3
    by_cases c4 : (Int.tmod a0 a1) < 0
    · rw [if_pos c4] at H
      have c4b0 : decide ((Int.tmod a0 a1) < 0) = true := decide_eq_true c4
      clear c4
      obtain rfl := Option.some.inj H
      go_enter Try.func25, Try.ntmps25
      go_wp2
      go_ret
      exact ⟨by first | rfl | (simp; done) | (simp [*]; done), by repeat (first | exact Drawn0.refl _ | apply Drawn0.step)⟩
    · rw [if_neg c4] at H
      have c4b0 : decide ((Int.tmod a0 a1) < 0) = false := decide_eq_false c4
      clear c4
      obtain rfl := Option.some.inj H
      go_enter Try.func25, Try.ntmps25
      go_wp2
      go_ret
      exact ⟨by first | rfl | (simp; done) | (simp [*]; done), by repeat (first | exact Drawn0.refl _ | apply Drawn0.step)⟩

end Go.Proofs.Ytbhgocpenbibgaa.PX
-- written by wip/tools/hybrid.py (over the kit's print.py, with functions proved by hand beside it) for this claim
namespace Go.Proofs.Ytbhgocpenbibgaa.PX
open Go.RowKit Go.Proofs.YtbhgocpenbibgaaW.PrintWords Go.Proofs.YtbhgocpenbibgaaW.PrintLast Go.Proofs.YtbhgocpenbibgaaW.PrintMore
attribute [local go_sem] max2_int min2_int max_two min_two max_three min_three max_four min_four   -- for this text's walks alone
set_option linter.unusedVariables false
set_option linter.unusedSimpArgs false

/-! ### cadencelaw4_Small: function 10 -/
mutual
def cadencelaw4_Small.l0 : Nat → List (S49) → Int → Int → List (S45) → Int → Option ((List (S45)))
  | 0, _, _, _, _, _ => none
  | k + 1, x0, x1, x2, x7, x8 => if x8 < (x0.length : Int) then (if x8 < x1 then (cadencelaw4_Small.j1 k x0 x1 x2 x7 x8 (decide (x2 > 0))) else (cadencelaw4_Small.j1 k x0 x1 x2 x7 x8 false)) else (cadencelaw4_Small.j1 k x0 x1 x2 x7 x8 false)
def cadencelaw4_Small.j1 : Nat → List (S49) → Int → Int → List (S45) → Int → Bool → Option ((List (S45)))
  | 0, _, _, _, _, _, _ => none
  | k + 1, x0, x1, x2, x7, x8, x21 => if x21 = true then ((some (([(⟨#[]⟩ : ByteArray), (⟨#[97]⟩ : ByteArray), (⟨#[98]⟩ : ByteArray), (⟨#[99]⟩ : ByteArray), (⟨#[100]⟩ : ByteArray)] : List ByteArray) : List ByteArray)).bind fun y287 => (if 0 ≤ x8 then (if x8 < (x0.length : Int) then ((cadencelaw4_within.f (((rd_T49 x0 x8).f0).size : Int) 5).bind fun t291 => (if 0 ≤ t291 then (if t291 < (y287.length : Int) then ((cadencelaw4_Small.f k ((rd_T49 x0 x8).f1) x1 (wrap64 (x2 - 1))).bind fun t294 => ((cadenceref2_With.f k x7 (rdOf ByteArray.empty y287 t291) t294).bind fun t297 => (cadencelaw4_Small.l0 k x0 x1 x2 t297 (wrap64 (x8 + 1))))) else (none)) else (none))) else (none)) else (none))) else (some x7)
def cadencelaw4_Small.f : Nat → List (S49) → Int → Int → Option ((List (S45)))
  | 0, _, _, _ => none
  | k + 1, l0, a1, a2 => cadencelaw4_Small.l0 k l0 a1 a2 ([] : List (S45)) 0
end
theorem cadencelaw4_Small.mono_l : ∀ k, (∀ y0 y1 y2, LeO (cadencelaw4_Small.f k y0 y1 y2) (cadencelaw4_Small.f (k + 1) y0 y1 y2)) ∧ (∀ y0 y1 y2 y3 y4, LeO (cadencelaw4_Small.l0 k y0 y1 y2 y3 y4) (cadencelaw4_Small.l0 (k + 1) y0 y1 y2 y3 y4)) ∧ (∀ y0 y1 y2 y3 y4 y5, LeO (cadencelaw4_Small.j1 k y0 y1 y2 y3 y4 y5) (cadencelaw4_Small.j1 (k + 1) y0 y1 y2 y3 y4 y5))
  | 0 => ⟨fun _ _ _ r h => by simp [cadencelaw4_Small.f] at h, fun _ _ _ _ _ r h => by simp [cadencelaw4_Small.l0] at h, fun _ _ _ _ _ _ r h => by simp [cadencelaw4_Small.j1] at h⟩
  | k + 1 => by
    obtain ⟨ih0, ih1, ih2⟩ := cadencelaw4_Small.mono_l k
    refine ⟨?_, ?_, ?_⟩
    · intro y0 y1 y2
      unfold cadencelaw4_Small.f
      repeat' first
      | (with_reducible exact ih0 _ _ _)
      | (with_reducible exact ih1 _ _ _ _ _)
      | (with_reducible exact ih2 _ _ _ _ _ _)
      | (with_reducible exact cadenceref2_With.mono _ _ _ _)
      | (with_reducible exact LeO.refl _)
      | (with_reducible exact LeO.none _)
      | (with_reducible refine LeO.ite ?_ ?_)
      | (with_reducible refine LeO.bind ?_ (fun _ => ?_))
      | exact ih0 _ _ _
      | exact ih1 _ _ _ _ _
      | exact ih2 _ _ _ _ _ _
      | exact cadenceref2_With.mono _ _ _ _
      | exact LeO.none _
      | refine LeO.ite ?_ ?_
      | refine LeO.bind ?_ (fun _ => ?_)
    · intro y0 y1 y2 y3 y4
      unfold cadencelaw4_Small.l0
      repeat' first
      | (with_reducible exact ih0 _ _ _)
      | (with_reducible exact ih1 _ _ _ _ _)
      | (with_reducible exact ih2 _ _ _ _ _ _)
      | (with_reducible exact cadenceref2_With.mono _ _ _ _)
      | (with_reducible exact LeO.refl _)
      | (with_reducible exact LeO.none _)
      | (with_reducible refine LeO.ite ?_ ?_)
      | (with_reducible refine LeO.bind ?_ (fun _ => ?_))
      | exact ih0 _ _ _
      | exact ih1 _ _ _ _ _
      | exact ih2 _ _ _ _ _ _
      | exact cadenceref2_With.mono _ _ _ _
      | exact LeO.none _
      | refine LeO.ite ?_ ?_
      | refine LeO.bind ?_ (fun _ => ?_)
    · intro y0 y1 y2 y3 y4 y5
      unfold cadencelaw4_Small.j1
      repeat' first
      | (with_reducible exact ih0 _ _ _)
      | (with_reducible exact ih1 _ _ _ _ _)
      | (with_reducible exact ih2 _ _ _ _ _ _)
      | (with_reducible exact cadenceref2_With.mono _ _ _ _)
      | (with_reducible exact LeO.refl _)
      | (with_reducible exact LeO.none _)
      | (with_reducible refine LeO.ite ?_ ?_)
      | (with_reducible refine LeO.bind ?_ (fun _ => ?_))
      | exact ih0 _ _ _
      | exact ih1 _ _ _ _ _
      | exact ih2 _ _ _ _ _ _
      | exact cadenceref2_With.mono _ _ _ _
      | exact LeO.none _
      | refine LeO.ite ?_ ?_
      | refine LeO.bind ?_ (fun _ => ?_)
theorem cadencelaw4_Small.mono : ∀ a0 a1 a2 k, LeO (cadencelaw4_Small.f k a0 a1 a2) (cadencelaw4_Small.f (k + 1) a0 a1 a2) := by
  intro a0 a1 a2 k
  obtain ⟨ih0, ih1, ih2⟩ := cadencelaw4_Small.mono_l k
  exact ih0 a0 a1 a2
def cadencelaw4_Small.T5 : Bool × List (List Nat × List Nat) := (true, [([], []), ([], []), ([], []), ([], []), ([2, 3], [2, 3]), ([4], [4]), ([5], [5]), ([6], [6]), ([7], [7]), ([1, 8], [1, 8]), ([9], [9]), ([], []), ([], []), ([11, 12], [11, 12]), ([13], [13]), ([14], [14]), ([], []), ([], []), ([17], [17]), ([15, 16, 18, 8], [15, 16, 18]), ([0, 10, 19, 19], [0, 10, 19]), ([20, 20, 0, 1, 2, 3, 4, 5, 6, 7, 8, 9, 10, 11, 12, 13, 14, 15, 16, 17, 18, 19, 20], [0, 20])])
def cadencelaw4_Small.B5 : List Nat := [0, 0, 0, 0, 12, 28, 60, 124, 252, 510, 1022, 0, 0, 6144, 14336, 30720, 0, 0, 131072, 522748, 1048575, 2097151]
theorem cadencelaw4_Small.tab5 : rtab .any (opsOf Try.f10 5) = cadencelaw4_Small.T5 := by kernel_rfl
theorem cadencelaw4_Small.bits5 : waitsOk cadencelaw4_Small.T5.2 cadencelaw4_Small.B5 = true := by kernel_rfl
set_option maxHeartbeats 8000000 in
set_option maxRecDepth 100000 in
theorem cadencelaw4_Small.calls (k : Nat) : ∀ (A0 : Option Addr) (c0 : Nat) (l0 : List (S49)) (a1 : Int) (a2 : Int) (r : List (S45)) (w : World) (hr0 : Kd.C k49 w A0 l0.length l0) (hc0 : l0.length ≤ c0) (h : cadencelaw4_Small.f k l0 a1 a2 = some r),
    Calls Try.prog 10 #[.slice A0 l0.length c0, .int .i64 a1, .int .i64 a2] w fun e w' => ∃ v0_ : Value, e = .returned (v0_) ∧ Kd.N k45 45 w' w.heap.size (fun k_ => (w.heap.size ≤ k_)) v0_ r ∧ Below w.heap.size w w' := by
  induction k using Nat.strongRecOn with
  | _ k ih =>
  intro A0 c0 l0 a1 a2 r w hr0 hc0 h
  cases k with
  | zero => exact absurd h (by simp [cadencelaw4_Small.f])
  | succ k =>
  simp only [cadencelaw4_Small.f] at h
  have HR0 := Aside0.mk hr0
  have HC0 := Aside0.mk hc0
  clear hr0 hc0
  have HB := Aside0.mk (Below.refl w.heap.size w)
  have H : (cadencelaw4_Small.l0 k l0 a1 a2 ([] : List (S45)) 0) = some r := h
  clear h
  have H' := Aside0.mk H
  clear H
  go_enter Try.func10, Try.ntmps10
  go_wp2
  go_loopg [7, 8] k (fun kq v7 v8 w' => ∃ (x7_1 : List (S45)) (x8_1 : Int), v8 = .int .i64 x8_1 ∧ Aside0 (cadencelaw4_Small.l0 kq l0 a1 a2 x7_1 x8_1 = some r) ∧ Aside0 (kq ≤ k) ∧ Aside0 (Kd.N k45 45 w' w.heap.size (fun k_ => (w.heap.size ≤ k_)) v7 x7_1) ∧ Aside0 (Below w.heap.size w w'))
  case atStart => exact ⟨(([] : List (S45))), (0), (by first | rfl | (simp; done) | (simp [*]; done)), H', ⟨Nat.le_refl _⟩, ⟨by first | exact Kd.R_nil _ _ _ _ _ | exact Kd.N_nil _ _ _ _ _ | exact Kd.V_nil _ _ _ _ _ | exact Kd.Q_nil _ _ _ _ _ | exact Kd.S_nil _ _ _ _ _⟩, ⟨by repeat (first | (with_reducible first | exact HB.out | apply bA_ | apply bN_ | apply bD_) | exact HB.out)⟩⟩
  case round =>
    clear H'
    try clear c1
    try clear p2
    obtain ⟨x7_1, x8_1, rfl, HA, HK1, HO_7, HB⟩ := hrel
    cases gk with
    | zero => exact absurd HA.out (by simp [cadencelaw4_Small.l0])
    | succ k1 =>
      have H := HA.out
      clear HA
      simp only [cadencelaw4_Small.l0] at H
      have HC4 := Aside0.mk H
      clear H
      go_upto_region 3 with (fail)
      go_cut [21] (fun v21 wc => ∃ (kq : Nat) (x21_3 : Bool), v21 = .bool x21_3 ∧ Aside0 (cadencelaw4_Small.j1 kq l0 a1 a2 x7_1 x8_1 x21_3 = some r) ∧ Aside0 (kq ≤ k1) ∧ Aside0 (Kd.N k45 45 wc w.heap.size (fun k_ => (w.heap.size ≤ k_)) u7 x7_1) ∧ Aside0 (Below w.heap.size w wc))
      case first =>
        have H := HC4.out
        clear HC4
        by_cases c5 : x8_1 < (l0.length : Int)
        · rw [if_pos c5] at H
          have c5b0 : decide (x8_1 < (l0.length : Int)) = true := decide_eq_true c5
          clear c5
          (first | rw [c5b0] | (simp only [i64_w, i32_w]; rw [c5b0]) | skip)
          by_cases c6 : x8_1 < a1
          · rw [if_pos c6] at H
            have c6b0 : decide (x8_1 < a1) = true := decide_eq_true c6
            clear c6
            have H' := Aside0.mk H
            clear H
            go_wp2
            go_meet
            case rel => exact ⟨_, (decide (a2 > 0)), (by first | rfl | (simp; done) | (simp [*]; done)), H', ⟨by have := HK1.out; first | omega | exact Nat.le_refl _⟩, ⟨by (with_reducible repeat (first | apply nA_ | apply nN_ | apply nD_)); exact HO_7.out⟩, ⟨by repeat (first | (with_reducible first | exact HB.out | apply bA_ | apply bN_ | apply bD_) | exact HB.out)⟩⟩
          · rw [if_neg c6] at H
            have c6b0 : decide (x8_1 < a1) = false := decide_eq_false c6
            clear c6
            have H' := Aside0.mk H
            clear H
            go_wp2
            go_meet
            case rel => exact ⟨_, (false), (by first | rfl | (simp; done) | (simp [*]; done)), H', ⟨by have := HK1.out; first | omega | exact Nat.le_refl _⟩, ⟨by (with_reducible repeat (first | apply nA_ | apply nN_ | apply nD_)); exact HO_7.out⟩, ⟨by repeat (first | (with_reducible first | exact HB.out | apply bA_ | apply bN_ | apply bD_) | exact HB.out)⟩⟩
        · rw [if_neg c5] at H
          have c5b0 : decide (x8_1 < (l0.length : Int)) = false := decide_eq_false c5
          clear c5
          (first | rw [c5b0] | (simp only [i64_w, i32_w]; rw [c5b0]) | skip)
          have H' := Aside0.mk H
          clear H
          go_wp2
          go_meet
          case rel => exact ⟨_, (false), (by first | rfl | (simp; done) | (simp [*]; done)), H', ⟨by have := HK1.out; first | omega | exact Nat.le_refl _⟩, ⟨by (with_reducible repeat (first | apply nA_ | apply nN_ | apply nD_)); exact HO_7.out⟩, ⟨by repeat (first | (with_reducible first | exact HB.out | apply bA_ | apply bN_ | apply bD_) | exact HB.out)⟩⟩
      case rest =>
        clear HC4
        try clear c1
        try clear p2
        try clear c5
        try clear c5b0
        try clear c6
        try clear c6b0
        try clear p2
        obtain ⟨kq, x21_3, rfl, HA, HJ3, HO_7, HB⟩ := hcut
        cases kq with
        | zero => exact absurd HA.out (by simp [cadencelaw4_Small.j1])
        | succ kj3 =>
          have H := HA.out
          clear HA
          simp only [cadencelaw4_Small.j1] at H
          by_cases c7 : x21_3 = true
          · subst c7
            have H1 : ((some (([(⟨#[]⟩ : ByteArray), (⟨#[97]⟩ : ByteArray), (⟨#[98]⟩ : ByteArray), (⟨#[99]⟩ : ByteArray), (⟨#[100]⟩ : ByteArray)] : List ByteArray) : List ByteArray)).bind fun y287 => (if 0 ≤ x8_1 then (if x8_1 < (l0.length : Int) then ((cadencelaw4_within.f (((rd_T49 l0 x8_1).f0).size : Int) 5).bind fun t291 => (if 0 ≤ t291 then (if t291 < (y287.length : Int) then ((cadencelaw4_Small.f kj3 ((rd_T49 l0 x8_1).f1) a1 (wrap64 (a2 - 1))).bind fun t294 => ((cadenceref2_With.f kj3 x7_1 (rdOf ByteArray.empty y287 t291) t294).bind fun t297 => (cadencelaw4_Small.l0 kj3 l0 a1 a2 t297 (wrap64 (x8_1 + 1))))) else (none)) else (none))) else (none)) else (none))) = some r := by rw [if_pos rfl] at H; exact H
            clear H
            have H := H1
            clear H1
            obtain ⟨y287, hy287⟩ : ∃ y_ : List ByteArray, y_ = (([(⟨#[]⟩ : ByteArray), (⟨#[97]⟩ : ByteArray), (⟨#[98]⟩ : ByteArray), (⟨#[99]⟩ : ByteArray), (⟨#[100]⟩ : ByteArray)] : List ByteArray)) := ⟨_, rfl⟩
            replace H : (if 0 ≤ x8_1 then (if x8_1 < (l0.length : Int) then ((cadencelaw4_within.f (((rd_T49 l0 x8_1).f0).size : Int) 5).bind fun t291 => (if 0 ≤ t291 then (if t291 < (y287.length : Int) then ((cadencelaw4_Small.f kj3 ((rd_T49 l0 x8_1).f1) a1 (wrap64 (a2 - 1))).bind fun t294 => ((cadenceref2_With.f kj3 x7_1 (rdOf ByteArray.empty y287 t291) t294).bind fun t297 => (cadencelaw4_Small.l0 kj3 l0 a1 a2 t297 (wrap64 (x8_1 + 1))))) else (none)) else (none))) else (none)) else (none)) = some r := by first | (rw [hy287]; with_reducible exact H) | (have H2_ := (Option.bind_some _ _).symm.trans H; rw [hy287]; with_reducible exact H2_) | (have H2_ := (Option.bind_some _ _).symm.trans H; with_reducible exact H2_) | with_reducible exact H | (rw [hy287]; exact H) | exact H
            have Ny287 := Aside0.mk hy287
            clear hy287
            by_cases c8 : 0 ≤ x8_1
            · rw [if_pos c8] at H
              have c8b0 : decide (0 ≤ x8_1) = true := decide_eq_true c8
              clear c8
              by_cases c9 : x8_1 < (l0.length : Int)
              · rw [if_pos c9] at H
                have c9b0 : decide (x8_1 < (l0.length : Int)) = true := decide_eq_true c9
                clear c9
                replace H := Option.bind_eq_some_iff.mp H
                obtain ⟨t291, A100, H⟩ := H
                replace H : (if 0 ≤ t291 then (if t291 < (y287.length : Int) then ((cadencelaw4_Small.f kj3 ((rd_T49 l0 x8_1).f1) a1 (wrap64 (a2 - 1))).bind fun t294 => ((cadenceref2_With.f kj3 x7_1 (rdOf ByteArray.empty y287 t291) t294).bind fun t297 => (cadencelaw4_Small.l0 kj3 l0 a1 a2 t297 (wrap64 (x8_1 + 1))))) else (none)) else (none)) = some r := H
                have A10 := Aside0.mk A100
                clear A100
                by_cases c11 : 0 ≤ t291
                · rw [if_pos c11] at H
                  have c11b0 : decide (0 ≤ t291) = true := decide_eq_true c11
                  clear c11
                  by_cases c12 : t291 < (y287.length : Int)
                  · rw [if_pos c12] at H
                    have c12b0 : decide (t291 < (y287.length : Int)) = true := decide_eq_true c12
                    clear c12
                    replace H := Option.bind_eq_some_iff.mp H
                    obtain ⟨t294, A130, H⟩ := H
                    replace H : ((cadenceref2_With.f kj3 x7_1 (rdOf ByteArray.empty y287 t291) t294).bind fun t297 => (cadencelaw4_Small.l0 kj3 l0 a1 a2 t297 (wrap64 (x8_1 + 1)))) = some r := H
                    have A13 := Aside0.mk A130
                    clear A130
                    replace H := Option.bind_eq_some_iff.mp H
                    obtain ⟨t297, A140, H⟩ := H
                    replace H : (cadencelaw4_Small.l0 kj3 l0 a1 a2 t297 (wrap64 (x8_1 + 1))) = some r := H
                    have A14 := Aside0.mk A140
                    clear A140
                    have H' := Aside0.mk H
                    clear H
                    obtain ⟨Ao15, co15, eo15⟩ := Kd.N_slice HO_7.out
                    subst eo15
                    try go_wp2
                    have pi292 : (0 ≤ (t291 : Int)) = True := eq_true (of_decide_eq_true (by first | (with_reducible assumption) | assumption))
                    have qi292 : (t291 < (y287.length : Int)) = True := eq_true (of_decide_eq_true (by first | (with_reducible assumption) | assumption))
                    have n0_ := Aside0.mk (nD_ HO_7.out)
                    have n1_ := Aside0.mk (bD_ HB.out)
                    clear HO_7
                    clear HB
                    have HO_7 := n0_
                    have HB := n1_
                    clear n0_ n1_
                    have p290 : 0 ≤ (x8_1 : Int) := of_decide_eq_true (by first | (with_reducible assumption) | assumption)
                    have q290 : x8_1 < (l0.length : Int) := of_decide_eq_true (by first | (with_reducible assumption) | assumption)
                    obtain ⟨ad290, A290_1, c290_1, e290, hx290_0, hx290_1, hl290_1, hi290_1⟩ := at_T49 HR0.out x8_1 p290 q290
                    have hw290_1 := hx290_1
                    have hw290_0 := hx290_0
                    cases e290
                    replace hx290_0 := (HB.out.cell (World.block_lt_of_cell? w _ hx290_0)).trans hx290_0
                    replace hx290_1 := (HB.out.cell (World.block_lt_of_cell? w _ hx290_1)).trans hx290_1
                    have HR290_1 := Aside0.mk hi290_1
                    have HC290_1 := Aside0.mk hl290_1
                    clear hi290_1 hl290_1
                    replace p290 := eq_true p290
                    replace q290 := eq_true q290
                    have p293 : 0 ≤ (x8_1 : Int) := of_decide_eq_true (by first | (with_reducible assumption) | assumption)
                    have q293 : x8_1 < (l0.length : Int) := of_decide_eq_true (by first | (with_reducible assumption) | assumption)
                    obtain ⟨ad293, A293_1, c293_1, e293, hx293_0, hx293_1, hl293_1, hi293_1⟩ := at_T49 HR0.out x8_1 p293 q293
                    have hw293_1 := hx293_1
                    have hw293_0 := hx293_0
                    obtain rfl : ad290 = ad293 := (by injection e293)
                    replace hx293_0 := (HB.out.cell (World.block_lt_of_cell? w _ hx293_0)).trans hx293_0
                    replace hx293_1 := (HB.out.cell (World.block_lt_of_cell? w _ hx293_1)).trans hx293_1
                    have HR293_1 := Aside0.mk hi293_1
                    have HC293_1 := Aside0.mk hl293_1
                    clear hi293_1 hl293_1
                    replace p293 := eq_true p293
                    replace q293 := eq_true q293
                    have ea_ := Option.some.inj (hx290_1.symm.trans hx293_1)
                    injection ea_ with ea_ en_ ec_
                    subst ea_
                    subst ec_
                    clear en_
                    refine start_ (n := 22) (S := fun w' => w'.cell? (ad290.add ((x8_1).toNat * 2)) = some (.string ((rd_T49 l0 x8_1).f0)) ∧ w'.cell? ⟨(ad290.add ((x8_1).toNat * 2)).block, (ad290.add ((x8_1).toNat * 2)).off + 1, none⟩ = some (.slice A290_1 ((rd_T49 l0 x8_1).f1).length c290_1) ∧ w'.cell? (ad290.add ((x8_1).toNat * 2)) = some (.string ((rd_T49 l0 x8_1).f0)) ∧ w'.cell? ⟨(ad290.add ((x8_1).toNat * 2)).block, (ad290.add ((x8_1).toNat * 2)).off + 1, none⟩ = some (.slice A290_1 ((rd_T49 l0 x8_1).f1).length c290_1)) (ds := []) #[false, false, false, false, false, false, false, false, false, false, false, false, false, false, false, false, false, false, false, false, false, false] (by kernel_rfl) rfl rfl ⟨((HB.out.cell (World.block_lt_of_cell? w _ hw290_0)).trans hw290_0), ((HB.out.cell (World.block_lt_of_cell? w _ hw290_1)).trans hw290_1), ((HB.out.cell (World.block_lt_of_cell? w _ hw293_0)).trans hw293_0), ((HB.out.cell (World.block_lt_of_cell? w _ hw293_1)).trans hw293_1)⟩ (fun hHeld => ?_); refine with_tabW cadencelaw4_Small.tab5 cadencelaw4_Small.bits5 (fun HT_ HW_ => ?_)
                    generalize wc.drew = w16 at HO_7 HB HR290_1 HR293_1 hx290_0 hx290_1 hx293_0 hx293_1 hHeld ⊢
                    refine pure_ (i := 0) (N := some 24) (v := ?_) (a' := ?_) #[true, false, false, false, false, false, false, false, false, false, false, false, false, false, false, false, false, false, false, false, false, false] rfl rfl (any_of HT_.out (by kernel_rfl)) (fun _ _ _ h => h) (Or.inl ⟨by rfl, ?_⟩) ?_ ?_
                    rotate_left
                    · intro w'
                      go_simp
                      with_reducible rfl
                    rotate_left
                    · simp only [Act.put, List.setIfInBounds_toArray, List.set_cons_zero, List.set_cons_succ, i64_w, i32_w]
                      rfl
                    refine pure_ (i := 2) (N := some 26) (v := ?_) (a' := ?_) #[true, false, true, false, false, false, false, false, false, false, false, false, false, false, false, false, false, false, false, false, false, false] rfl rfl (any_of HT_.out (by kernel_rfl)) (fun _ _ _ h => h) (Or.inl ⟨by rfl, ?_⟩) ?_ ?_
                    rotate_left
                    · intro w'
                      go_simp
                      with_reducible rfl
                    rotate_left
                    · simp only [Act.put, List.setIfInBounds_toArray, List.set_cons_zero, List.set_cons_succ, i64_w, i32_w]
                      rfl
                    refine pure_ (i := 3) (N := some 27) (v := ?_) (a' := ?_) #[true, false, true, true, false, false, false, false, false, false, false, false, false, false, false, false, false, false, false, false, false, false] rfl rfl (any_of HT_.out (by kernel_rfl)) (fun _ _ _ h => h) (Or.inl ⟨by rfl, ?_⟩) ?_ ?_
                    rotate_left
                    · intro w'
                      go_simp
                      with_reducible rfl
                    rotate_left
                    · simp only [Act.put, List.setIfInBounds_toArray, List.set_cons_zero, List.set_cons_succ, i64_w, i32_w]
                      rfl
                    refine pure_ (i := 4) (N := some 28) (v := ?_) (a' := ?_) #[true, false, true, true, true, false, false, false, false, false, false, false, false, false, false, false, false, false, false, false, false, false] rfl rfl (any_of HT_.out (by kernel_rfl)) (fun _ _ _ h => h) (Or.inl ⟨by rfl, ?_⟩) ?_ ?_
                    rotate_left
                    · intro w'
                      go_simp
                      with_reducible rfl
                    rotate_left
                    · simp only [Act.put, List.setIfInBounds_toArray, List.set_cons_zero, List.set_cons_succ, i64_w, i32_w]
                      rfl
                    refine pure_ (i := 5) (N := some 29) (v := ?_) (a' := ?_) #[true, false, true, true, true, true, false, false, false, false, false, false, false, false, false, false, false, false, false, false, false, false] rfl rfl (any_of HT_.out (by kernel_rfl)) (fun _ _ _ h => h) (Or.inl ⟨by rfl, ?_⟩) ?_ ?_
                    rotate_left
                    · intro w'
                      go_simp
                      with_reducible rfl
                    rotate_left
                    · simp only [Act.put, List.setIfInBounds_toArray, List.set_cons_zero, List.set_cons_succ, i64_w, i32_w]
                      rfl
                    refine pure_ (i := 11) (N := some 35) (v := ?_) (a' := ?_) #[true, false, true, true, true, true, false, false, false, false, false, true, false, false, false, false, false, false, false, false, false, false] rfl rfl (any_of HT_.out (by kernel_rfl)) (fun _ _ _ h => h) (Or.inl ⟨by rfl, ?_⟩) ?_ ?_
                    rotate_left
                    · intro w'
                      go_simp
                      with_reducible rfl
                    rotate_left
                    · simp only [Act.put, List.setIfInBounds_toArray, List.set_cons_zero, List.set_cons_succ, i64_w, i32_w]
                      rfl
                    refine pure_ (i := 12) (N := some 36) (v := ?_) (a' := ?_) #[true, false, true, true, true, true, false, false, false, false, false, true, true, false, false, false, false, false, false, false, false, false] rfl rfl (any_of HT_.out (by kernel_rfl)) (fun _ _ _ h => h) (Or.inl ⟨by rfl, ?_⟩) ?_ ?_
                    rotate_left
                    · intro w'
                      go_simp
                      with_reducible rfl
                    rotate_left
                    · simp only [Act.put, List.setIfInBounds_toArray, List.set_cons_zero, List.set_cons_succ, i64_w, i32_w]
                      rfl
                    refine pure_ (i := 13) (N := some 37) (v := ?_) (a' := ?_) #[true, false, true, true, true, true, false, false, false, false, false, true, true, true, false, false, false, false, false, false, false, false] rfl rfl (any_of HT_.out (by kernel_rfl)) (fun _ _ _ h => h) (Or.inl ⟨by rfl, ?_⟩) ?_ ?_
                    rotate_left
                    · intro w'
                      go_simp
                      with_reducible rfl
                    rotate_left
                    · simp only [Act.put, List.setIfInBounds_toArray, List.set_cons_zero, List.set_cons_succ, i64_w, i32_w]
                      rfl
                    refine pure_ (i := 14) (N := some 38) (v := ?_) (a' := ?_) #[true, false, true, true, true, true, false, false, false, false, false, true, true, true, true, false, false, false, false, false, false, false] rfl rfl (any_of HT_.out (by kernel_rfl)) (fun _ _ _ h => h) (Or.inl ⟨by rfl, ?_⟩) ?_ ?_
                    rotate_left
                    · intro w'
                      go_simp
                      with_reducible rfl
                    rotate_left
                    · simp only [Act.put, List.setIfInBounds_toArray, List.set_cons_zero, List.set_cons_succ, i64_w, i32_w]
                      rfl
                    refine pure_ (i := 16) (N := some 40) (v := ?_) (a' := ?_) #[true, false, true, true, true, true, false, false, false, false, false, true, true, true, true, false, true, false, false, false, false, false] rfl rfl (any_of HT_.out (by kernel_rfl)) (fun _ _ _ h => h) (Or.inl ⟨by rfl, ?_⟩) ?_ ?_
                    rotate_left
                    · intro w'
                      go_simp
                      with_reducible rfl
                    rotate_left
                    · simp only [Act.put, List.setIfInBounds_toArray, List.set_cons_zero, List.set_cons_succ, i64_w, i32_w]
                      rfl
                    refine pure_ (i := 17) (N := some 41) (v := ?_) (a' := ?_) #[true, false, true, true, true, true, false, false, false, false, false, true, true, true, true, false, true, true, false, false, false, false] rfl rfl (any_of HT_.out (by kernel_rfl)) (fun _ _ _ h => h) (Or.inl ⟨by rfl, ?_⟩) ?_ ?_
                    rotate_left
                    · intro w'
                      go_simp
                      with_reducible rfl
                    rotate_left
                    · simp only [Act.put, List.setIfInBounds_toArray, List.set_cons_zero, List.set_cons_succ, i64_w, i32_w]
                      rfl
                    refine pure_ (i := 18) (N := some 42) (v := ?_) (a' := ?_) #[true, false, true, true, true, true, false, false, false, false, false, true, true, true, true, false, true, true, true, false, false, false] rfl rfl (any_of HT_.out (by kernel_rfl)) (fun _ _ _ h => h) (Or.inl ⟨by rfl, ?_⟩) ?_ ?_
                    rotate_left
                    · intro w'
                      go_simp
                      with_reducible rfl
                    rotate_left
                    · simp only [Act.put, List.setIfInBounds_toArray, List.set_cons_zero, List.set_cons_succ, i64_w, i32_w]
                      rfl
                    refine take_ (i := 6) (N := some 30) (v := ?_) (a' := ?_) #[true, false, true, true, true, true, true, false, false, false, false, true, true, true, true, false, true, true, true, false, false, false] rfl rfl (take_ofW HT_.out HW_.out (by kernel_rfl)) (fun _ _ _ h => h) (Or.inl ⟨by rfl, ?_⟩) hHeld ?_ ?_
                    rotate_left
                    · rintro w' ⟨s0, s1, s2, s3⟩
                      go_simp
                      with_reducible rfl
                    rotate_left
                    · simp only [Act.put, List.setIfInBounds_toArray, List.set_cons_zero, List.set_cons_succ, i64_w, i32_w]
                      rfl
                    refine pure_ (i := 7) (N := some 31) (v := ?_) (a' := ?_) #[true, false, true, true, true, true, true, true, false, false, false, true, true, true, true, false, true, true, true, false, false, false] rfl rfl (any_of HT_.out (by kernel_rfl)) (fun _ _ _ h => h) (Or.inl ⟨by rfl, ?_⟩) ?_ ?_
                    rotate_left
                    · intro w'
                      go_simp
                      with_reducible rfl
                    rotate_left
                    · simp only [Act.put, List.setIfInBounds_toArray, List.set_cons_zero, List.set_cons_succ, i64_w, i32_w]
                      rfl
                    refine take_ (i := 15) (N := some 39) (v := ?_) (a' := ?_) #[true, false, true, true, true, true, true, true, false, false, false, true, true, true, true, true, true, true, true, false, false, false] rfl rfl (take_ofW HT_.out HW_.out (by kernel_rfl)) (fun _ _ _ h => h) (Or.inl ⟨by rfl, ?_⟩) hHeld ?_ ?_
                    rotate_left
                    · rintro w' ⟨s0, s1, s2, s3⟩
                      go_simp
                      with_reducible rfl
                    rotate_left
                    · simp only [Act.put, List.setIfInBounds_toArray, List.set_cons_zero, List.set_cons_succ, i64_w, i32_w]
                      rfl
                    refine join_ (σ := Value × Addr × Value) 2 #[true, true, true, true, true, true, true, true, true, true, true, true, true, true, true, true, true, true, true, true, false, false] (fun s_ => [(25, s_.1), (32, .int .i64 t291), (34, .string (rdOf ByteArray.empty y287 t291)), (43, s_.2.2), (33, .pointer (some (s_.2.1.add (t291).toNat)))]) (fun s_ w' => (w'.cell? (ad290.add ((x8_1).toNat * 2)) = some (.string ((rd_T49 l0 x8_1).f0)) ∧ w'.cell? ⟨(ad290.add ((x8_1).toNat * 2)).block, (ad290.add ((x8_1).toNat * 2)).off + 1, none⟩ = some (.slice A290_1 ((rd_T49 l0 x8_1).f1).length c290_1) ∧ w'.cell? (ad290.add ((x8_1).toNat * 2)) = some (.string ((rd_T49 l0 x8_1).f0)) ∧ w'.cell? ⟨(ad290.add ((x8_1).toNat * 2)).block, (ad290.add ((x8_1).toNat * 2)).off + 1, none⟩ = some (.slice A290_1 ((rd_T49 l0 x8_1).f1).length c290_1)) ∧ (Kd.R Kd.string 9 w' w.heap.size (fun k_ => (w.heap.size ≤ k_)) s_.1 y287) ∧ (Kd.N k45 45 w' w.heap.size (fun k_ => (w.heap.size ≤ k_) ∧ some k_ ≠ (s_.1 : Value).ownBlock ∧ some k_ ≠ (.slice Ao15 x7_1.length co15 : Value).ownBlock) s_.2.2 t294) ∧ (Kd.N k45 45 w' w.heap.size (fun k_ => (w.heap.size ≤ k_) ∧ some k_ ≠ (s_.1 : Value).ownBlock ∧ some k_ ≠ (s_.2.2 : Value).ownBlock) (.slice Ao15 x7_1.length co15) x7_1) ∧ (∃ c_, (s_.1 : Value) = .slice (some s_.2.1) y287.length c_) ∧ (Below w.heap.size w w')) ?_ ?_
                    rotate_left
                    · intro hJ1_8_10_19
                      refine join_ (σ := Value × Addr) 3 #[true, true, true, true, true, true, true, true, true, true, true, true, true, true, true, true, true, true, true, false, false, false] (fun s_ => [(25, s_.1), (32, .int .i64 t291), (34, .string (rdOf ByteArray.empty y287 t291)), (33, .pointer (some (s_.2.add (t291).toNat)))]) (fun s_ w' => (w'.cell? (ad290.add ((x8_1).toNat * 2)) = some (.string ((rd_T49 l0 x8_1).f0)) ∧ w'.cell? ⟨(ad290.add ((x8_1).toNat * 2)).block, (ad290.add ((x8_1).toNat * 2)).off + 1, none⟩ = some (.slice A290_1 ((rd_T49 l0 x8_1).f1).length c290_1) ∧ w'.cell? (ad290.add ((x8_1).toNat * 2)) = some (.string ((rd_T49 l0 x8_1).f0)) ∧ w'.cell? ⟨(ad290.add ((x8_1).toNat * 2)).block, (ad290.add ((x8_1).toNat * 2)).off + 1, none⟩ = some (.slice A290_1 ((rd_T49 l0 x8_1).f1).length c290_1)) ∧ (Kd.R Kd.string 9 w' w.heap.size (fun k_ => (w.heap.size ≤ k_)) s_.1 y287) ∧ (Kd.N k45 45 w' w.heap.size (fun k_ => (w.heap.size ≤ k_) ∧ some k_ ≠ (s_.1 : Value).ownBlock) (.slice Ao15 x7_1.length co15) x7_1) ∧ (∃ c_, (s_.1 : Value) = .slice (some s_.2) y287.length c_) ∧ (Below w.heap.size w w')) ?_ ?_
                      rotate_left
                      · intro hJ1_8_10
                        refine join_ (σ := Value × Addr × Value) 3 #[true, true, true, true, true, true, true, true, true, true, false, true, true, true, true, true, true, true, true, true, false, false] (fun s_ => [(25, s_.1), (32, .int .i64 t291), (43, s_.2.2), (33, .pointer (some (s_.2.1.add (t291).toNat)))]) (fun s_ w' => (w'.cell? (ad290.add ((x8_1).toNat * 2)) = some (.string ((rd_T49 l0 x8_1).f0)) ∧ w'.cell? ⟨(ad290.add ((x8_1).toNat * 2)).block, (ad290.add ((x8_1).toNat * 2)).off + 1, none⟩ = some (.slice A290_1 ((rd_T49 l0 x8_1).f1).length c290_1) ∧ w'.cell? (ad290.add ((x8_1).toNat * 2)) = some (.string ((rd_T49 l0 x8_1).f0)) ∧ w'.cell? ⟨(ad290.add ((x8_1).toNat * 2)).block, (ad290.add ((x8_1).toNat * 2)).off + 1, none⟩ = some (.slice A290_1 ((rd_T49 l0 x8_1).f1).length c290_1)) ∧ (Kd.R Kd.string 9 w' w.heap.size (fun k_ => (w.heap.size ≤ k_)) s_.1 y287) ∧ (Kd.N k45 45 w' w.heap.size (fun k_ => (w.heap.size ≤ k_) ∧ some k_ ≠ (s_.1 : Value).ownBlock ∧ some k_ ≠ (.slice Ao15 x7_1.length co15 : Value).ownBlock) s_.2.2 t294) ∧ (Kd.N k45 45 w' w.heap.size (fun k_ => (w.heap.size ≤ k_) ∧ some k_ ≠ (s_.1 : Value).ownBlock ∧ some k_ ≠ (s_.2.2 : Value).ownBlock) (.slice Ao15 x7_1.length co15) x7_1) ∧ (∃ c_, (s_.1 : Value) = .slice (some s_.2.1) y287.length c_) ∧ (Below w.heap.size w w')) ?_ ?_
                        rotate_left
                        · intro hJ1_8_19
                          refine join_ (σ := Value × Addr) 4 #[true, true, true, true, true, true, true, true, true, true, false, true, true, true, true, true, true, true, true, false, false, false] (fun s_ => [(25, s_.1), (32, .int .i64 t291), (33, .pointer (some (s_.2.add (t291).toNat)))]) (fun s_ w' => (w'.cell? (ad290.add ((x8_1).toNat * 2)) = some (.string ((rd_T49 l0 x8_1).f0)) ∧ w'.cell? ⟨(ad290.add ((x8_1).toNat * 2)).block, (ad290.add ((x8_1).toNat * 2)).off + 1, none⟩ = some (.slice A290_1 ((rd_T49 l0 x8_1).f1).length c290_1) ∧ w'.cell? (ad290.add ((x8_1).toNat * 2)) = some (.string ((rd_T49 l0 x8_1).f0)) ∧ w'.cell? ⟨(ad290.add ((x8_1).toNat * 2)).block, (ad290.add ((x8_1).toNat * 2)).off + 1, none⟩ = some (.slice A290_1 ((rd_T49 l0 x8_1).f1).length c290_1)) ∧ (Kd.R Kd.string 9 w' w.heap.size (fun k_ => (w.heap.size ≤ k_)) s_.1 y287) ∧ (Kd.N k45 45 w' w.heap.size (fun k_ => (w.heap.size ≤ k_) ∧ some k_ ≠ (s_.1 : Value).ownBlock) (.slice Ao15 x7_1.length co15) x7_1) ∧ (∃ c_, (s_.1 : Value) = .slice (some s_.2) y287.length c_) ∧ (Below w.heap.size w w')) ?_ ?_
                          rotate_left
                          · intro hJ1_8
                            refine join_ (σ := Value) 5 #[true, false, true, true, true, true, true, true, true, false, false, true, true, true, true, true, true, true, true, true, false, false] (fun s_ => [(32, .int .i64 t291), (43, s_)]) (fun s_ w' => (w'.cell? (ad290.add ((x8_1).toNat * 2)) = some (.string ((rd_T49 l0 x8_1).f0)) ∧ w'.cell? ⟨(ad290.add ((x8_1).toNat * 2)).block, (ad290.add ((x8_1).toNat * 2)).off + 1, none⟩ = some (.slice A290_1 ((rd_T49 l0 x8_1).f1).length c290_1) ∧ w'.cell? (ad290.add ((x8_1).toNat * 2)) = some (.string ((rd_T49 l0 x8_1).f0)) ∧ w'.cell? ⟨(ad290.add ((x8_1).toNat * 2)).block, (ad290.add ((x8_1).toNat * 2)).off + 1, none⟩ = some (.slice A290_1 ((rd_T49 l0 x8_1).f1).length c290_1)) ∧ (Kd.N k45 45 w' w.heap.size (fun k_ => (w.heap.size ≤ k_) ∧ some k_ ≠ (.slice Ao15 x7_1.length co15 : Value).ownBlock) s_ t294) ∧ (Kd.N k45 45 w' w.heap.size (fun k_ => (w.heap.size ≤ k_) ∧ some k_ ≠ (s_ : Value).ownBlock) (.slice Ao15 x7_1.length co15) x7_1) ∧ (Below w.heap.size w w')) ?_ ?_
                            rotate_left
                            · intro hJ8_19
                              refine join_ (σ := Value × Addr) 6 #[true, true, true, true, true, true, true, true, false, false, false, true, true, true, true, true, true, true, true, false, false, false] (fun s_ => [(25, s_.1)]) (fun s_ w' => (w'.cell? (ad290.add ((x8_1).toNat * 2)) = some (.string ((rd_T49 l0 x8_1).f0)) ∧ w'.cell? ⟨(ad290.add ((x8_1).toNat * 2)).block, (ad290.add ((x8_1).toNat * 2)).off + 1, none⟩ = some (.slice A290_1 ((rd_T49 l0 x8_1).f1).length c290_1) ∧ w'.cell? (ad290.add ((x8_1).toNat * 2)) = some (.string ((rd_T49 l0 x8_1).f0)) ∧ w'.cell? ⟨(ad290.add ((x8_1).toNat * 2)).block, (ad290.add ((x8_1).toNat * 2)).off + 1, none⟩ = some (.slice A290_1 ((rd_T49 l0 x8_1).f1).length c290_1)) ∧ (Kd.R Kd.string 9 w' w.heap.size (fun k_ => (w.heap.size ≤ k_)) s_.1 y287) ∧ (Kd.N k45 45 w' w.heap.size (fun k_ => (w.heap.size ≤ k_) ∧ some k_ ≠ (s_.1 : Value).ownBlock) (.slice Ao15 x7_1.length co15) x7_1) ∧ (∃ c_, (s_.1 : Value) = .slice (some s_.2) y287.length c_) ∧ (Below w.heap.size w w')) ?_ ?_
                              rotate_left
                              · intro hJ1
                                refine join_ (σ := Unit) 6 #[true, false, true, true, true, true, true, true, true, false, false, true, true, true, true, true, true, true, true, false, false, false] (fun s_ => [(32, .int .i64 t291)]) (fun s_ w' => (w'.cell? (ad290.add ((x8_1).toNat * 2)) = some (.string ((rd_T49 l0 x8_1).f0)) ∧ w'.cell? ⟨(ad290.add ((x8_1).toNat * 2)).block, (ad290.add ((x8_1).toNat * 2)).off + 1, none⟩ = some (.slice A290_1 ((rd_T49 l0 x8_1).f1).length c290_1) ∧ w'.cell? (ad290.add ((x8_1).toNat * 2)) = some (.string ((rd_T49 l0 x8_1).f0)) ∧ w'.cell? ⟨(ad290.add ((x8_1).toNat * 2)).block, (ad290.add ((x8_1).toNat * 2)).off + 1, none⟩ = some (.slice A290_1 ((rd_T49 l0 x8_1).f1).length c290_1)) ∧ (Kd.N k45 45 w' w.heap.size (fun k_ => (w.heap.size ≤ k_)) (.slice Ao15 x7_1.length co15) x7_1) ∧ (Below w.heap.size w w')) ?_ ?_
                                rotate_left
                                · intro hJ8
                                  refine two_ (i := 1) (j := 8) (Ni := some 25) (Nj := some 32) #[true, true, true, true, true, true, true, true, false, false, false, true, true, true, true, true, true, true, true, false, false, false] #[true, false, true, true, true, true, true, true, true, false, false, true, true, true, true, true, true, true, true, false, false, false] rfl rfl rfl rfl (two_of HT_.out (by kernel_rfl)) (by decide) (by decide) (fun K hK => ?_) (fun K hK => ?_)
                                  · skip
                                    refine Kd.R_lit_step Kd.string _ 9 ?hg (N := 25) ?hd (xs := ([(⟨#[]⟩ : ByteArray), (⟨#[97]⟩ : ByteArray), (⟨#[98]⟩ : ByteArray), (⟨#[99]⟩ : ByteArray), (⟨#[100]⟩ : ByteArray)] : List ByteArray)) (inner := [.string (⟨#[]⟩ : ByteArray), .string (⟨#[97]⟩ : ByteArray), .string (⟨#[98]⟩ : ByteArray), .string (⟨#[99]⟩ : ByteArray), .string (⟨#[100]⟩ : ByteArray)]) (ok := fun _ => True) (okp := fun _ => True) ?hr ?hp (fun _ hk => hk) trivial (Below.refl _ _) (Nat.le_refl _) (by simp) ?_; (case hd => rfl); (case hg => rfl); (case hr => first | (go_simp; done) | (go_simp; rfl)); (case hp => exact (Reps.one (show Kd.M Kd.string _ _ _ (⟨#[]⟩ : ByteArray) [.string (⟨#[]⟩ : ByteArray)] from rfl) (Reps.one (show Kd.M Kd.string _ _ _ (⟨#[97]⟩ : ByteArray) [.string (⟨#[97]⟩ : ByteArray)] from rfl) (Reps.one (show Kd.M Kd.string _ _ _ (⟨#[98]⟩ : ByteArray) [.string (⟨#[98]⟩ : ByteArray)] from rfl) (Reps.one (show Kd.M Kd.string _ _ _ (⟨#[99]⟩ : ByteArray) [.string (⟨#[99]⟩ : ByteArray)] from rfl) (Reps.one (show Kd.M Kd.string _ _ _ (⟨#[100]⟩ : ByteArray) [.string (⟨#[100]⟩ : ByteArray)] from rfl) (Reps.none _ _)))))))
                                    intro v288 w17 ho18 hb hg_ hnew_
                                    clear hg_ hnew_
                                    (first | rw [← Ny287.out] at ho18 | (simp only [Int.reduceToNat] at ho18; rw [← Ny287.out] at ho18))
                                    have n0_ := Aside0.mk (Kd.N_elder' (by (with_reducible repeat (first | apply nA_ | apply nN_ | apply nD_)); exact HO_7.out) (Kd.R_base ho18) hb)
                                    have n1_ := Aside0.mk (Kd.R_lower (Kd.R_newM (M := fun k_ => (w.heap.size ≤ k_)) ho18 (below_size (by repeat (first | (with_reducible first | exact HB.out | apply bA_ | apply bN_ | apply bD_) | exact HB.out))) (fun k_ h_ => h_)) (below_size (by repeat (first | (with_reducible first | exact HB.out | apply bA_ | apply bN_ | apply bD_) | exact HB.out))))
                                    have n2_ := Aside0.mk (below_step (by repeat (first | (with_reducible first | exact HB.out | apply bA_ | apply bN_ | apply bD_) | exact HB.out)) hb)
                                    clear HO_7
                                    clear HB
                                    have HO_7 := n0_
                                    have HO289 := n1_
                                    have HB := n2_
                                    clear n0_ n1_ n2_
                                    clear hb ho18
                                    obtain ⟨Ao19, co19, eo19⟩ := Kd.R_slice HO289.out
                                    subst eo19
                                    obtain ⟨ado19, fo19, _⟩ := Kd.at_string (Kd.R_reads' HO289.out).2.2 0 (by decide) (by rw [Ny287.out]; simp)
                                    cases fo19
                                    refine hK.out _ _ ⟨((HB.out.cell (World.block_lt_of_cell? w _ hw290_0)).trans hw290_0), ((HB.out.cell (World.block_lt_of_cell? w _ hw290_1)).trans hw290_1), ((HB.out.cell (World.block_lt_of_cell? w _ hw293_0)).trans hw293_0), ((HB.out.cell (World.block_lt_of_cell? w _ hw293_1)).trans hw293_1)⟩ (fun hHeld => ?_)
                                    clear hK K
                                    refine norm_ (a' := ?_) ?_ ?_
                                    rotate_left
                                    · show Act.put _ (some 25) _ = _
                                      simp only [Act.put, List.setIfInBounds_toArray, List.set_cons_zero, List.set_cons_succ, i64_w, i32_w]
                                      rfl
                                    exact norm_ (by first | (simp only [putAll, Act.put, List.setIfInBounds_toArray, List.set_cons_zero, List.set_cons_succ]; done) | (simp only [putAll, Act.put, List.setIfInBounds_toArray, List.set_cons_zero, List.set_cons_succ]; rfl)) (hJ1 (.slice (some ado19) y287.length co19, ado19) _ ⟨hHeld, (by (with_reducible repeat (first | apply rA_ | apply rN_ | apply rD_)); exact Kd.R_mono HO289.out (fun _ hk => hk.1)), (by (with_reducible repeat (first | apply nA_ | apply nN_ | apply nD_)); exact HO_7.out), ⟨_, rfl⟩, (by repeat (first | (with_reducible first | exact HB.out | apply bA_ | apply bN_ | apply bD_) | exact HB.out))⟩)
                                  · skip
                                    refine goes_ Try.func25 (by kernel_rfl) rfl #[.int .i64 (((rd_T49 l0 x8_1).f0).size : Int), .int .i64 5] (by rfl) rfl rfl (by (try simp only [List.map_toArray, List.map_cons, List.map_nil]); first | done | rfl | (simp only [List.length_drop, List.length_take]; rfl)) ?_
                                    with_reducible refine (cadencelaw4_within.calls (((rd_T49 l0 x8_1).f0).size : Int) 5 t291 _ A10.out).mono ?_
                                    rintro e w' ⟨rfl, ⟨nd, rfl⟩⟩
                                    refine ⟨_, rfl, ?_⟩
                                    refine hK.out _ _ ⟨((HB.out.cell (World.block_lt_of_cell? w _ hw290_0)).trans hw290_0), ((HB.out.cell (World.block_lt_of_cell? w _ hw290_1)).trans hw290_1), ((HB.out.cell (World.block_lt_of_cell? w _ hw293_0)).trans hw293_0), ((HB.out.cell (World.block_lt_of_cell? w _ hw293_1)).trans hw293_1)⟩ (fun hHeld => ?_)
                                    clear hK K
                                    refine norm_ (a' := ?_) ?_ ?_
                                    rotate_left
                                    · show Act.put _ (some 32) _ = _
                                      simp only [Act.put, List.setIfInBounds_toArray, List.set_cons_zero, List.set_cons_succ, i64_w, i32_w]
                                      rfl
                                    exact norm_ (by first | (simp only [putAll, Act.put, List.setIfInBounds_toArray, List.set_cons_zero, List.set_cons_succ]; done) | (simp only [putAll, Act.put, List.setIfInBounds_toArray, List.set_cons_zero, List.set_cons_succ]; rfl)) (hJ8 () _ ⟨hHeld, (by (with_reducible repeat (first | apply nA_ | apply nN_ | apply nD_)); exact HO_7.out), (by repeat (first | (with_reducible first | exact HB.out | apply bA_ | apply bN_ | apply bD_) | exact HB.out))⟩)
                                · skip
                                  rintro _ w17 ⟨hS_, h0_, h1_⟩
                                  have n0_ : Aside0 (Kd.N k45 45 w17 w.heap.size (fun k_ => (w.heap.size ≤ k_)) (.slice Ao15 x7_1.length co15) x7_1) := ⟨h0_⟩
                                  have n1_ : Aside0 (Below w.heap.size w w17) := ⟨h1_⟩
                                  clear HO_7
                                  clear HB
                                  clear h0_ h1_
                                  have HO_7 := n0_
                                  have HB := n1_
                                  clear n0_ n1_
                                  have hHeld : w17.cell? (ad290.add ((x8_1).toNat * 2)) = some (.string ((rd_T49 l0 x8_1).f0)) ∧ w17.cell? ⟨(ad290.add ((x8_1).toNat * 2)).block, (ad290.add ((x8_1).toNat * 2)).off + 1, none⟩ = some (.slice A290_1 ((rd_T49 l0 x8_1).f1).length c290_1) ∧ w17.cell? (ad290.add ((x8_1).toNat * 2)) = some (.string ((rd_T49 l0 x8_1).f0)) ∧ w17.cell? ⟨(ad290.add ((x8_1).toNat * 2)).block, (ad290.add ((x8_1).toNat * 2)).off + 1, none⟩ = some (.slice A290_1 ((rd_T49 l0 x8_1).f1).length c290_1) := hS_
                                  refine norm_ (a' := ?_) ?_ ?_
                                  rotate_left
                                  · simp only [putAll, Act.put, List.setIfInBounds_toArray, List.set_cons_zero, List.set_cons_succ]
                                    rfl
                                  refine two_ (i := 1) (j := 19) (Ni := some 25) (Nj := some 43) #[true, true, true, true, true, true, true, true, true, false, false, true, true, true, true, true, true, true, true, false, false, false] #[true, false, true, true, true, true, true, true, true, false, false, true, true, true, true, true, true, true, true, true, false, false] rfl rfl rfl rfl (two_of HT_.out (by kernel_rfl)) (by decide) (by decide) (fun K hK => ?_) (fun K hK => ?_)
                                  · skip
                                    refine Kd.R_lit_step Kd.string _ 9 ?hg (N := 25) ?hd (xs := ([(⟨#[]⟩ : ByteArray), (⟨#[97]⟩ : ByteArray), (⟨#[98]⟩ : ByteArray), (⟨#[99]⟩ : ByteArray), (⟨#[100]⟩ : ByteArray)] : List ByteArray)) (inner := [.string (⟨#[]⟩ : ByteArray), .string (⟨#[97]⟩ : ByteArray), .string (⟨#[98]⟩ : ByteArray), .string (⟨#[99]⟩ : ByteArray), .string (⟨#[100]⟩ : ByteArray)]) (ok := fun _ => True) (okp := fun _ => True) ?hr ?hp (fun _ hk => hk) trivial (Below.refl _ _) (Nat.le_refl _) (by simp) ?_; (case hd => rfl); (case hg => rfl); (case hr => first | (go_simp; done) | (go_simp; rfl)); (case hp => exact (Reps.one (show Kd.M Kd.string _ _ _ (⟨#[]⟩ : ByteArray) [.string (⟨#[]⟩ : ByteArray)] from rfl) (Reps.one (show Kd.M Kd.string _ _ _ (⟨#[97]⟩ : ByteArray) [.string (⟨#[97]⟩ : ByteArray)] from rfl) (Reps.one (show Kd.M Kd.string _ _ _ (⟨#[98]⟩ : ByteArray) [.string (⟨#[98]⟩ : ByteArray)] from rfl) (Reps.one (show Kd.M Kd.string _ _ _ (⟨#[99]⟩ : ByteArray) [.string (⟨#[99]⟩ : ByteArray)] from rfl) (Reps.one (show Kd.M Kd.string _ _ _ (⟨#[100]⟩ : ByteArray) [.string (⟨#[100]⟩ : ByteArray)] from rfl) (Reps.none _ _)))))))
                                    intro v288 w18 ho19 hb hg_ hnew_
                                    clear hg_ hnew_
                                    (first | rw [← Ny287.out] at ho19 | (simp only [Int.reduceToNat] at ho19; rw [← Ny287.out] at ho19))
                                    have n0_ := Aside0.mk (Kd.N_elder' (by (with_reducible repeat (first | apply nA_ | apply nN_ | apply nD_)); exact HO_7.out) (Kd.R_base ho19) hb)
                                    have n1_ := Aside0.mk (Kd.R_lower (Kd.R_newM (M := fun k_ => (w.heap.size ≤ k_)) ho19 (below_size (by repeat (first | (with_reducible first | exact HB.out | apply bA_ | apply bN_ | apply bD_) | exact HB.out))) (fun k_ h_ => h_)) (below_size (by repeat (first | (with_reducible first | exact HB.out | apply bA_ | apply bN_ | apply bD_) | exact HB.out))))
                                    have n2_ := Aside0.mk (below_step (by repeat (first | (with_reducible first | exact HB.out | apply bA_ | apply bN_ | apply bD_) | exact HB.out)) hb)
                                    clear HO_7
                                    clear HB
                                    have HO_7 := n0_
                                    have HO289 := n1_
                                    have HB := n2_
                                    clear n0_ n1_ n2_
                                    clear hb ho19
                                    obtain ⟨Ao20, co20, eo20⟩ := Kd.R_slice HO289.out
                                    subst eo20
                                    obtain ⟨ado20, fo20, _⟩ := Kd.at_string (Kd.R_reads' HO289.out).2.2 0 (by decide) (by rw [Ny287.out]; simp)
                                    cases fo20
                                    refine hK.out _ _ ⟨((HB.out.cell (World.block_lt_of_cell? w _ hw290_0)).trans hw290_0), ((HB.out.cell (World.block_lt_of_cell? w _ hw290_1)).trans hw290_1), ((HB.out.cell (World.block_lt_of_cell? w _ hw293_0)).trans hw293_0), ((HB.out.cell (World.block_lt_of_cell? w _ hw293_1)).trans hw293_1)⟩ (fun hHeld => ?_)
                                    clear hK K
                                    refine norm_ (a' := ?_) ?_ ?_
                                    rotate_left
                                    · show Act.put _ (some 25) _ = _
                                      simp only [Act.put, List.setIfInBounds_toArray, List.set_cons_zero, List.set_cons_succ, i64_w, i32_w]
                                      rfl
                                    refine pure_ (i := 9) (N := some 33) (v := ?_) (a' := ?_) #[true, true, true, true, true, true, true, true, true, true, false, true, true, true, true, true, true, true, true, false, false, false] rfl rfl (any_of HT_.out (by kernel_rfl)) (fun _ _ _ h => h) (Or.inl ⟨by rfl, ?_⟩) ?_ ?_
                                    rotate_left
                                    · intro w'
                                      go_simp
                                      with_reducible rfl
                                    rotate_left
                                    · simp only [Act.put, List.setIfInBounds_toArray, List.set_cons_zero, List.set_cons_succ, i64_w, i32_w]
                                      rfl
                                    exact norm_ (by first | (simp only [putAll, Act.put, List.setIfInBounds_toArray, List.set_cons_zero, List.set_cons_succ]; done) | (simp only [putAll, Act.put, List.setIfInBounds_toArray, List.set_cons_zero, List.set_cons_succ]; rfl)) (hJ1_8 (.slice (some ado20) y287.length co20, ado20) _ ⟨hHeld, (by (with_reducible repeat (first | apply rA_ | apply rN_ | apply rD_)); exact Kd.R_mono HO289.out (fun _ hk => hk.1)), (by (with_reducible repeat (first | apply nA_ | apply nN_ | apply nD_)); exact HO_7.out), ⟨_, rfl⟩, (by repeat (first | (with_reducible first | exact HB.out | apply bA_ | apply bN_ | apply bD_) | exact HB.out))⟩)
                                  · skip
                                    refine goes_ Try.func10 (by kernel_rfl) rfl #[.slice A290_1 ((rd_T49 l0 x8_1).f1).length c290_1, .int .i64 a1, .int .i64 (wrap64 (a2 - 1))] (by rfl) rfl rfl (by (try simp only [List.map_toArray, List.map_cons, List.map_nil]); first | done | rfl | (simp only [List.length_drop, List.length_take]; rfl)) ?_
                                    with_reducible refine (ih kj3 (by have := HK1.out; have := HJ3.out; omega) _ _ ((rd_T49 l0 x8_1).f1) a1 (wrap64 (a2 - 1)) t294 _ ?side1 ?side2 A13.out).mono ?_
                                    (case side1 => repeat (first | exact (Kd.C_below HR293_1.out HB.out) | (with_reducible refine cA_ ?_ _) | (with_reducible refine cN_ ?_ _) | (with_reducible refine cD_ ?_)))
                                    (case side2 => exact HC293_1.out)
                                    rintro e w18 ⟨v295, rfl, ho0, hb⟩
                                    refine ⟨_, rfl, ?_⟩
                                    have n0_ := Aside0.mk (Kd.N_elder' (by (with_reducible repeat (first | apply nA_ | apply nN_ | apply nD_)); exact HO_7.out) (Kd.N_base ho0) hb)
                                    have n1_ := Aside0.mk (Kd.N_lower (Kd.N_mono (ok' := fun k_ => (w.heap.size ≤ k_) ∧ some k_ ≠ (.slice Ao15 x7_1.length co15 : Value).ownBlock) ho0 (fun k_ hk_ => ⟨(Nat.le_trans (below_size (by repeat (first | (with_reducible first | exact HB.out | apply bA_ | apply bN_ | apply bD_) | exact HB.out))) hk_), (Kd.fresh' (Kd.N_lt (by (with_reducible repeat (first | apply nA_ | apply nN_ | apply nD_)); exact HO_7.out)) k_ hk_)⟩)) (below_size (by repeat (first | (with_reducible first | exact HB.out | apply bA_ | apply bN_ | apply bD_) | exact HB.out))))
                                    have n2_ := Aside0.mk (below_step (by repeat (first | (with_reducible first | exact HB.out | apply bA_ | apply bN_ | apply bD_) | exact HB.out)) hb)
                                    clear HO_7
                                    clear HB
                                    have HO_7 := n0_
                                    have HO296 := n1_
                                    have HB := n2_
                                    clear n0_ n1_ n2_
                                    (try clear hb)
                                    (try clear hb2)
                                    (try clear hk)
                                    (try clear hi)
                                    (try clear ho0)
                                    refine hK.out _ _ ⟨((HB.out.cell (World.block_lt_of_cell? w _ hw290_0)).trans hw290_0), ((HB.out.cell (World.block_lt_of_cell? w _ hw290_1)).trans hw290_1), ((HB.out.cell (World.block_lt_of_cell? w _ hw293_0)).trans hw293_0), ((HB.out.cell (World.block_lt_of_cell? w _ hw293_1)).trans hw293_1)⟩ (fun hHeld => ?_)
                                    clear hK K
                                    refine norm_ (a' := ?_) ?_ ?_
                                    rotate_left
                                    · show Act.put _ (some 43) _ = _
                                      simp only [Act.put, List.setIfInBounds_toArray, List.set_cons_zero, List.set_cons_succ, i64_w, i32_w]
                                      rfl
                                    exact norm_ (by first | (simp only [putAll, Act.put, List.setIfInBounds_toArray, List.set_cons_zero, List.set_cons_succ]; done) | (simp only [putAll, Act.put, List.setIfInBounds_toArray, List.set_cons_zero, List.set_cons_succ]; rfl)) (hJ8_19 (v295) _ ⟨hHeld, (by (with_reducible repeat (first | apply nA_ | apply nN_ | apply nD_)); exact HO296.out), (by (with_reducible repeat (first | apply nA_ | apply nN_ | apply nD_)); exact HO_7.out), (by repeat (first | (with_reducible first | exact HB.out | apply bA_ | apply bN_ | apply bD_) | exact HB.out))⟩)
                              · skip
                                rintro ⟨v288, adz_v288⟩ w20 ⟨hS_, h0_, h1_, h2_, h3_⟩
                                have n0_ : Aside0 (Kd.R Kd.string 9 w20 w.heap.size (fun k_ => (w.heap.size ≤ k_)) v288 y287) := ⟨h0_⟩
                                have n1_ : Aside0 (Kd.N k45 45 w20 w.heap.size (fun k_ => (w.heap.size ≤ k_) ∧ some k_ ≠ (v288 : Value).ownBlock) (.slice Ao15 x7_1.length co15) x7_1) := ⟨h1_⟩
                                have n2_ : Aside0 (∃ c_, (v288 : Value) = .slice (some adz_v288) y287.length c_) := ⟨h2_⟩
                                have n3_ : Aside0 (Below w.heap.size w w20) := ⟨h3_⟩
                                clear HO_7
                                clear HB
                                clear h0_ h1_ h2_ h3_
                                have HO289 := n0_
                                have HO_7 := n1_
                                have HA_HO289 := n2_
                                have HB := n3_
                                clear n0_ n1_ n2_ n3_
                                have hHeld : w20.cell? (ad290.add ((x8_1).toNat * 2)) = some (.string ((rd_T49 l0 x8_1).f0)) ∧ w20.cell? ⟨(ad290.add ((x8_1).toNat * 2)).block, (ad290.add ((x8_1).toNat * 2)).off + 1, none⟩ = some (.slice A290_1 ((rd_T49 l0 x8_1).f1).length c290_1) ∧ w20.cell? (ad290.add ((x8_1).toNat * 2)) = some (.string ((rd_T49 l0 x8_1).f0)) ∧ w20.cell? ⟨(ad290.add ((x8_1).toNat * 2)).block, (ad290.add ((x8_1).toNat * 2)).off + 1, none⟩ = some (.slice A290_1 ((rd_T49 l0 x8_1).f1).length c290_1) := hS_
                                obtain ⟨co21, eo21⟩ := HA_HO289.out
                                clear HA_HO289
                                subst eo21
                                refine norm_ (a' := ?_) ?_ ?_
                                rotate_left
                                · simp only [putAll, Act.put, List.setIfInBounds_toArray, List.set_cons_zero, List.set_cons_succ]
                                  rfl
                                refine one_ (i := 8) (N := some 32) #[true, true, true, true, true, true, true, true, true, false, false, true, true, true, true, true, true, true, true, false, false, false] rfl rfl (one_of HT_.out (by kernel_rfl)) (by decide) (fun K hK => ?_)
                                refine goes_ Try.func25 (by kernel_rfl) rfl #[.int .i64 (((rd_T49 l0 x8_1).f0).size : Int), .int .i64 5] (by rfl) rfl rfl (by (try simp only [List.map_toArray, List.map_cons, List.map_nil]); first | done | rfl | (simp only [List.length_drop, List.length_take]; rfl)) ?_
                                with_reducible refine (cadencelaw4_within.calls (((rd_T49 l0 x8_1).f0).size : Int) 5 t291 _ A10.out).mono ?_
                                rintro e w' ⟨rfl, ⟨nd, rfl⟩⟩
                                refine ⟨_, rfl, ?_⟩
                                refine hK.out _ _ ⟨((HB.out.cell (World.block_lt_of_cell? w _ hw290_0)).trans hw290_0), ((HB.out.cell (World.block_lt_of_cell? w _ hw290_1)).trans hw290_1), ((HB.out.cell (World.block_lt_of_cell? w _ hw293_0)).trans hw293_0), ((HB.out.cell (World.block_lt_of_cell? w _ hw293_1)).trans hw293_1)⟩ (fun hHeld => ?_)
                                clear hK K
                                refine norm_ (a' := ?_) ?_ ?_
                                rotate_left
                                · show Act.put _ (some 32) _ = _
                                  simp only [Act.put, List.setIfInBounds_toArray, List.set_cons_zero, List.set_cons_succ, i64_w, i32_w]
                                  rfl
                                refine pure_ (i := 9) (N := some 33) (v := ?_) (a' := ?_) #[true, true, true, true, true, true, true, true, true, true, false, true, true, true, true, true, true, true, true, false, false, false] rfl rfl (any_of HT_.out (by kernel_rfl)) (fun _ _ _ h => h) (Or.inl ⟨by rfl, ?_⟩) ?_ ?_
                                rotate_left
                                · intro w'
                                  go_simp
                                  with_reducible rfl
                                rotate_left
                                · simp only [Act.put, List.setIfInBounds_toArray, List.set_cons_zero, List.set_cons_succ, i64_w, i32_w]
                                  rfl
                                exact norm_ (by first | (simp only [putAll, Act.put, List.setIfInBounds_toArray, List.set_cons_zero, List.set_cons_succ]; done) | (simp only [putAll, Act.put, List.setIfInBounds_toArray, List.set_cons_zero, List.set_cons_succ]; rfl)) (hJ1_8 (.slice (some adz_v288) y287.length co21, adz_v288) _ ⟨hHeld, (by (with_reducible repeat (first | apply rA_ | apply rN_ | apply rD_)); exact HO289.out), (by (with_reducible repeat (first | apply nA_ | apply nN_ | apply nD_)); exact HO_7.out), ⟨_, rfl⟩, (by repeat (first | (with_reducible first | exact HB.out | apply bA_ | apply bN_ | apply bD_) | exact HB.out))⟩)
                            · skip
                              rintro v295 w18 ⟨hS_, h0_, h1_, h2_⟩
                              have n0_ : Aside0 (Kd.N k45 45 w18 w.heap.size (fun k_ => (w.heap.size ≤ k_) ∧ some k_ ≠ (.slice Ao15 x7_1.length co15 : Value).ownBlock) v295 t294) := ⟨h0_⟩
                              have n1_ : Aside0 (Kd.N k45 45 w18 w.heap.size (fun k_ => (w.heap.size ≤ k_) ∧ some k_ ≠ (v295 : Value).ownBlock) (.slice Ao15 x7_1.length co15) x7_1) := ⟨h1_⟩
                              have n2_ : Aside0 (Below w.heap.size w w18) := ⟨h2_⟩
                              clear HO_7
                              clear HB
                              clear h0_ h1_ h2_
                              have HO296 := n0_
                              have HO_7 := n1_
                              have HB := n2_
                              clear n0_ n1_ n2_
                              have hHeld : w18.cell? (ad290.add ((x8_1).toNat * 2)) = some (.string ((rd_T49 l0 x8_1).f0)) ∧ w18.cell? ⟨(ad290.add ((x8_1).toNat * 2)).block, (ad290.add ((x8_1).toNat * 2)).off + 1, none⟩ = some (.slice A290_1 ((rd_T49 l0 x8_1).f1).length c290_1) ∧ w18.cell? (ad290.add ((x8_1).toNat * 2)) = some (.string ((rd_T49 l0 x8_1).f0)) ∧ w18.cell? ⟨(ad290.add ((x8_1).toNat * 2)).block, (ad290.add ((x8_1).toNat * 2)).off + 1, none⟩ = some (.slice A290_1 ((rd_T49 l0 x8_1).f1).length c290_1) := hS_
                              refine norm_ (a' := ?_) ?_ ?_
                              rotate_left
                              · simp only [putAll, Act.put, List.setIfInBounds_toArray, List.set_cons_zero, List.set_cons_succ]
                                rfl
                              refine one_ (i := 1) (N := some 25) #[true, true, true, true, true, true, true, true, true, false, false, true, true, true, true, true, true, true, true, true, false, false] rfl rfl (one_of HT_.out (by kernel_rfl)) (by decide) (fun K hK => ?_)
                              refine Kd.R_lit_step Kd.string _ 9 ?hg (N := 25) ?hd (xs := ([(⟨#[]⟩ : ByteArray), (⟨#[97]⟩ : ByteArray), (⟨#[98]⟩ : ByteArray), (⟨#[99]⟩ : ByteArray), (⟨#[100]⟩ : ByteArray)] : List ByteArray)) (inner := [.string (⟨#[]⟩ : ByteArray), .string (⟨#[97]⟩ : ByteArray), .string (⟨#[98]⟩ : ByteArray), .string (⟨#[99]⟩ : ByteArray), .string (⟨#[100]⟩ : ByteArray)]) (ok := fun _ => True) (okp := fun _ => True) ?hr ?hp (fun _ hk => hk) trivial (Below.refl _ _) (Nat.le_refl _) (by simp) ?_; (case hd => rfl); (case hg => rfl); (case hr => first | (go_simp; done) | (go_simp; rfl)); (case hp => exact (Reps.one (show Kd.M Kd.string _ _ _ (⟨#[]⟩ : ByteArray) [.string (⟨#[]⟩ : ByteArray)] from rfl) (Reps.one (show Kd.M Kd.string _ _ _ (⟨#[97]⟩ : ByteArray) [.string (⟨#[97]⟩ : ByteArray)] from rfl) (Reps.one (show Kd.M Kd.string _ _ _ (⟨#[98]⟩ : ByteArray) [.string (⟨#[98]⟩ : ByteArray)] from rfl) (Reps.one (show Kd.M Kd.string _ _ _ (⟨#[99]⟩ : ByteArray) [.string (⟨#[99]⟩ : ByteArray)] from rfl) (Reps.one (show Kd.M Kd.string _ _ _ (⟨#[100]⟩ : ByteArray) [.string (⟨#[100]⟩ : ByteArray)] from rfl) (Reps.none _ _)))))))
                              intro v288 w19 ho20 hb hg_ hnew_
                              clear hg_ hnew_
                              (first | rw [← Ny287.out] at ho20 | (simp only [Int.reduceToNat] at ho20; rw [← Ny287.out] at ho20))
                              have n0_ := Aside0.mk (Kd.N_elder' (by (with_reducible repeat (first | apply nA_ | apply nN_ | apply nD_)); exact HO_7.out) (Kd.R_base ho20) hb)
                              have n1_ := Aside0.mk (Kd.N_elder' (by (with_reducible repeat (first | apply nA_ | apply nN_ | apply nD_)); exact HO296.out) (Kd.R_base ho20) hb)
                              have n2_ := Aside0.mk (Kd.R_lower (Kd.R_newM (M := fun k_ => (w.heap.size ≤ k_)) ho20 (below_size (by repeat (first | (with_reducible first | exact HB.out | apply bA_ | apply bN_ | apply bD_) | exact HB.out))) (fun k_ h_ => h_)) (below_size (by repeat (first | (with_reducible first | exact HB.out | apply bA_ | apply bN_ | apply bD_) | exact HB.out))))
                              have n3_ := Aside0.mk (below_step (by repeat (first | (with_reducible first | exact HB.out | apply bA_ | apply bN_ | apply bD_) | exact HB.out)) hb)
                              clear HO_7
                              clear HO296
                              clear HB
                              have HO_7 := n0_
                              have HO296 := n1_
                              have HO289 := n2_
                              have HB := n3_
                              clear n0_ n1_ n2_ n3_
                              clear hb ho20
                              obtain ⟨Ao21, co21, eo21⟩ := Kd.R_slice HO289.out
                              subst eo21
                              obtain ⟨ado21, fo21, _⟩ := Kd.at_string (Kd.R_reads' HO289.out).2.2 0 (by decide) (by rw [Ny287.out]; simp)
                              cases fo21
                              refine hK.out _ _ ⟨((HB.out.cell (World.block_lt_of_cell? w _ hw290_0)).trans hw290_0), ((HB.out.cell (World.block_lt_of_cell? w _ hw290_1)).trans hw290_1), ((HB.out.cell (World.block_lt_of_cell? w _ hw293_0)).trans hw293_0), ((HB.out.cell (World.block_lt_of_cell? w _ hw293_1)).trans hw293_1)⟩ (fun hHeld => ?_)
                              clear hK K
                              refine norm_ (a' := ?_) ?_ ?_
                              rotate_left
                              · show Act.put _ (some 25) _ = _
                                simp only [Act.put, List.setIfInBounds_toArray, List.set_cons_zero, List.set_cons_succ, i64_w, i32_w]
                                rfl
                              refine pure_ (i := 9) (N := some 33) (v := ?_) (a' := ?_) #[true, true, true, true, true, true, true, true, true, true, false, true, true, true, true, true, true, true, true, true, false, false] rfl rfl (any_of HT_.out (by kernel_rfl)) (fun _ _ _ h => h) (Or.inl ⟨by rfl, ?_⟩) ?_ ?_
                              rotate_left
                              · intro w'
                                go_simp
                                with_reducible rfl
                              rotate_left
                              · simp only [Act.put, List.setIfInBounds_toArray, List.set_cons_zero, List.set_cons_succ, i64_w, i32_w]
                                rfl
                              exact norm_ (by first | (simp only [putAll, Act.put, List.setIfInBounds_toArray, List.set_cons_zero, List.set_cons_succ]; done) | (simp only [putAll, Act.put, List.setIfInBounds_toArray, List.set_cons_zero, List.set_cons_succ]; rfl)) (hJ1_8_19 (.slice (some ado21) y287.length co21, ado21, v295) _ ⟨hHeld, (by (with_reducible repeat (first | apply rA_ | apply rN_ | apply rD_)); exact Kd.R_mono HO289.out (fun _ hk => hk.1)), (by (with_reducible repeat (first | apply nA_ | apply nN_ | apply nD_)); exact Kd.N_mono HO296.out (fun _ hk => ⟨hk.1.1, ⟨hk.2, hk.1.2⟩⟩)), (by (with_reducible repeat (first | apply nA_ | apply nN_ | apply nD_)); exact Kd.N_mono HO_7.out (fun _ hk => ⟨hk.1.1, ⟨hk.2, hk.1.2⟩⟩)), ⟨_, rfl⟩, (by repeat (first | (with_reducible first | exact HB.out | apply bA_ | apply bN_ | apply bD_) | exact HB.out))⟩)
                          · skip
                            rintro ⟨v288, adz_v288⟩ w20 ⟨hS_, h0_, h1_, h2_, h3_⟩
                            have n0_ : Aside0 (Kd.R Kd.string 9 w20 w.heap.size (fun k_ => (w.heap.size ≤ k_)) v288 y287) := ⟨h0_⟩
                            have n1_ : Aside0 (Kd.N k45 45 w20 w.heap.size (fun k_ => (w.heap.size ≤ k_) ∧ some k_ ≠ (v288 : Value).ownBlock) (.slice Ao15 x7_1.length co15) x7_1) := ⟨h1_⟩
                            have n2_ : Aside0 (∃ c_, (v288 : Value) = .slice (some adz_v288) y287.length c_) := ⟨h2_⟩
                            have n3_ : Aside0 (Below w.heap.size w w20) := ⟨h3_⟩
                            clear HO_7
                            clear HB
                            clear h0_ h1_ h2_ h3_
                            have HO289 := n0_
                            have HO_7 := n1_
                            have HA_HO289 := n2_
                            have HB := n3_
                            clear n0_ n1_ n2_ n3_
                            have hHeld : w20.cell? (ad290.add ((x8_1).toNat * 2)) = some (.string ((rd_T49 l0 x8_1).f0)) ∧ w20.cell? ⟨(ad290.add ((x8_1).toNat * 2)).block, (ad290.add ((x8_1).toNat * 2)).off + 1, none⟩ = some (.slice A290_1 ((rd_T49 l0 x8_1).f1).length c290_1) ∧ w20.cell? (ad290.add ((x8_1).toNat * 2)) = some (.string ((rd_T49 l0 x8_1).f0)) ∧ w20.cell? ⟨(ad290.add ((x8_1).toNat * 2)).block, (ad290.add ((x8_1).toNat * 2)).off + 1, none⟩ = some (.slice A290_1 ((rd_T49 l0 x8_1).f1).length c290_1) := hS_
                            obtain ⟨co21, eo21⟩ := HA_HO289.out
                            clear HA_HO289
                            subst eo21
                            refine norm_ (a' := ?_) ?_ ?_
                            rotate_left
                            · simp only [putAll, Act.put, List.setIfInBounds_toArray, List.set_cons_zero, List.set_cons_succ]
                              rfl
                            refine two_ (i := 10) (j := 19) (Ni := some 34) (Nj := some 43) #[true, true, true, true, true, true, true, true, true, true, true, true, true, true, true, true, true, true, true, false, false, false] #[true, true, true, true, true, true, true, true, true, true, false, true, true, true, true, true, true, true, true, true, false, false] rfl rfl rfl rfl (two_of HT_.out (by kernel_rfl)) (by decide) (by decide) (fun K hK => ?_) (fun K hK => ?_)
                            · skip
                              (have p292 : 0 ≤ (t291 : Int) := of_decide_eq_true (by first | (with_reducible assumption) | assumption); have q292 : t291 < (y287.length : Int) := of_decide_eq_true (by first | (with_reducible assumption) | assumption); obtain ⟨ad292, e292, hx292_0⟩ := Kd.at_string (Kd.R_reads' HO289.out).2.2 t291 p292 q292; obtain rfl : adz_v288 = ad292 := (by injection e292))
                              refine value_ (w1 := ?_) (v := ?_) (by rfl) rfl ?_ ?_
                              rotate_left 2
                              · go_simp
                                constructor
                                · rfl
                                · rfl
                              clear hx292_0
                              refine hK.out _ _ ⟨((HB.out.cell (World.block_lt_of_cell? w _ hw290_0)).trans hw290_0), ((HB.out.cell (World.block_lt_of_cell? w _ hw290_1)).trans hw290_1), ((HB.out.cell (World.block_lt_of_cell? w _ hw293_0)).trans hw293_0), ((HB.out.cell (World.block_lt_of_cell? w _ hw293_1)).trans hw293_1)⟩ (fun hHeld => ?_)
                              clear hK K
                              refine norm_ (a' := ?_) ?_ ?_
                              rotate_left
                              · show Act.put _ (some 34) _ = _
                                simp only [Act.put, List.setIfInBounds_toArray, List.set_cons_zero, List.set_cons_succ, i64_w, i32_w]
                                rfl
                              exact norm_ (by first | (simp only [putAll, Act.put, List.setIfInBounds_toArray, List.set_cons_zero, List.set_cons_succ]; done) | (simp only [putAll, Act.put, List.setIfInBounds_toArray, List.set_cons_zero, List.set_cons_succ]; rfl)) (hJ1_8_10 (.slice (some adz_v288) y287.length co21, adz_v288) _ ⟨hHeld, (by (with_reducible repeat (first | apply rA_ | apply rN_ | apply rD_)); exact HO289.out), (by (with_reducible repeat (first | apply nA_ | apply nN_ | apply nD_)); exact HO_7.out), ⟨_, rfl⟩, (by repeat (first | (with_reducible first | exact HB.out | apply bA_ | apply bN_ | apply bD_) | exact HB.out))⟩)
                            · skip
                              refine goes_ Try.func10 (by kernel_rfl) rfl #[.slice A290_1 ((rd_T49 l0 x8_1).f1).length c290_1, .int .i64 a1, .int .i64 (wrap64 (a2 - 1))] (by rfl) rfl rfl (by (try simp only [List.map_toArray, List.map_cons, List.map_nil]); first | done | rfl | (simp only [List.length_drop, List.length_take]; rfl)) ?_
                              with_reducible refine (ih kj3 (by have := HK1.out; have := HJ3.out; omega) _ _ ((rd_T49 l0 x8_1).f1) a1 (wrap64 (a2 - 1)) t294 _ ?side1 ?side2 A13.out).mono ?_
                              (case side1 => repeat (first | exact (Kd.C_below HR293_1.out HB.out) | (with_reducible refine cA_ ?_ _) | (with_reducible refine cN_ ?_ _) | (with_reducible refine cD_ ?_)))
                              (case side2 => exact HC293_1.out)
                              rintro e w22 ⟨v295, rfl, ho0, hb⟩
                              refine ⟨_, rfl, ?_⟩
                              have n0_ := Aside0.mk (Kd.N_elder' (by (with_reducible repeat (first | apply nA_ | apply nN_ | apply nD_)); exact HO_7.out) (Kd.N_base ho0) hb)
                              have n1_ := Aside0.mk (Kd.R_below (by (with_reducible repeat (first | apply rA_ | apply rN_ | apply rD_)); exact HO289.out) hb)
                              have n2_ := Aside0.mk (Kd.N_lower (Kd.N_mono (ok' := fun k_ => (w.heap.size ≤ k_) ∧ some k_ ≠ (.slice Ao15 x7_1.length co15 : Value).ownBlock ∧ some k_ ≠ (.slice (some adz_v288) y287.length co21 : Value).ownBlock) ho0 (fun k_ hk_ => ⟨(Nat.le_trans (below_size (by repeat (first | (with_reducible first | exact HB.out | apply bA_ | apply bN_ | apply bD_) | exact HB.out))) hk_), (Kd.fresh' (Kd.N_lt (by (with_reducible repeat (first | apply nA_ | apply nN_ | apply nD_)); exact HO_7.out)) k_ hk_), (Kd.fresh' (Kd.R_lt (by (with_reducible repeat (first | apply rA_ | apply rN_ | apply rD_)); exact HO289.out)) k_ hk_)⟩)) (below_size (by repeat (first | (with_reducible first | exact HB.out | apply bA_ | apply bN_ | apply bD_) | exact HB.out))))
                              have n3_ := Aside0.mk (below_step (by repeat (first | (with_reducible first | exact HB.out | apply bA_ | apply bN_ | apply bD_) | exact HB.out)) hb)
                              clear HO_7
                              clear HO289
                              clear HB
                              have HO_7 := n0_
                              have HO289 := n1_
                              have HO296 := n2_
                              have HB := n3_
                              clear n0_ n1_ n2_ n3_
                              (try clear hb)
                              (try clear hb2)
                              (try clear hk)
                              (try clear hi)
                              (try clear ho0)
                              refine hK.out _ _ ⟨((HB.out.cell (World.block_lt_of_cell? w _ hw290_0)).trans hw290_0), ((HB.out.cell (World.block_lt_of_cell? w _ hw290_1)).trans hw290_1), ((HB.out.cell (World.block_lt_of_cell? w _ hw293_0)).trans hw293_0), ((HB.out.cell (World.block_lt_of_cell? w _ hw293_1)).trans hw293_1)⟩ (fun hHeld => ?_)
                              clear hK K
                              refine norm_ (a' := ?_) ?_ ?_
                              rotate_left
                              · show Act.put _ (some 43) _ = _
                                simp only [Act.put, List.setIfInBounds_toArray, List.set_cons_zero, List.set_cons_succ, i64_w, i32_w]
                                rfl
                              exact norm_ (by first | (simp only [putAll, Act.put, List.setIfInBounds_toArray, List.set_cons_zero, List.set_cons_succ]; done) | (simp only [putAll, Act.put, List.setIfInBounds_toArray, List.set_cons_zero, List.set_cons_succ]; rfl)) (hJ1_8_19 (.slice (some adz_v288) y287.length co21, adz_v288, v295) _ ⟨hHeld, (by (with_reducible repeat (first | apply rA_ | apply rN_ | apply rD_)); exact HO289.out), (by (with_reducible repeat (first | apply nA_ | apply nN_ | apply nD_)); exact Kd.N_mono HO296.out (fun _ hk => ⟨hk.1, ⟨hk.2.2, hk.2.1⟩⟩)), (by (with_reducible repeat (first | apply nA_ | apply nN_ | apply nD_)); exact Kd.N_mono HO_7.out (fun _ hk => ⟨hk.1.1, ⟨hk.1.2, hk.2⟩⟩)), ⟨_, rfl⟩, (by repeat (first | (with_reducible first | exact HB.out | apply bA_ | apply bN_ | apply bD_) | exact HB.out))⟩)
                        · skip
                          rintro ⟨v288, adz_v288, v295⟩ w21 ⟨hS_, h0_, h1_, h2_, h3_, h4_⟩
                          have n0_ : Aside0 (Kd.R Kd.string 9 w21 w.heap.size (fun k_ => (w.heap.size ≤ k_)) v288 y287) := ⟨h0_⟩
                          have n1_ : Aside0 (Kd.N k45 45 w21 w.heap.size (fun k_ => (w.heap.size ≤ k_) ∧ some k_ ≠ (v288 : Value).ownBlock ∧ some k_ ≠ (.slice Ao15 x7_1.length co15 : Value).ownBlock) v295 t294) := ⟨h1_⟩
                          have n2_ : Aside0 (Kd.N k45 45 w21 w.heap.size (fun k_ => (w.heap.size ≤ k_) ∧ some k_ ≠ (v288 : Value).ownBlock ∧ some k_ ≠ (v295 : Value).ownBlock) (.slice Ao15 x7_1.length co15) x7_1) := ⟨h2_⟩
                          have n3_ : Aside0 (∃ c_, (v288 : Value) = .slice (some adz_v288) y287.length c_) := ⟨h3_⟩
                          have n4_ : Aside0 (Below w.heap.size w w21) := ⟨h4_⟩
                          clear HO_7
                          clear HB
                          clear h0_ h1_ h2_ h3_ h4_
                          have HO289 := n0_
                          have HO296 := n1_
                          have HO_7 := n2_
                          have HA_HO289 := n3_
                          have HB := n4_
                          clear n0_ n1_ n2_ n3_ n4_
                          have hHeld : w21.cell? (ad290.add ((x8_1).toNat * 2)) = some (.string ((rd_T49 l0 x8_1).f0)) ∧ w21.cell? ⟨(ad290.add ((x8_1).toNat * 2)).block, (ad290.add ((x8_1).toNat * 2)).off + 1, none⟩ = some (.slice A290_1 ((rd_T49 l0 x8_1).f1).length c290_1) ∧ w21.cell? (ad290.add ((x8_1).toNat * 2)) = some (.string ((rd_T49 l0 x8_1).f0)) ∧ w21.cell? ⟨(ad290.add ((x8_1).toNat * 2)).block, (ad290.add ((x8_1).toNat * 2)).off + 1, none⟩ = some (.slice A290_1 ((rd_T49 l0 x8_1).f1).length c290_1) := hS_
                          obtain ⟨co22, eo22⟩ := HA_HO289.out
                          clear HA_HO289
                          subst eo22
                          refine norm_ (a' := ?_) ?_ ?_
                          rotate_left
                          · simp only [putAll, Act.put, List.setIfInBounds_toArray, List.set_cons_zero, List.set_cons_succ]
                            rfl
                          refine one_ (i := 10) (N := some 34) #[true, true, true, true, true, true, true, true, true, true, true, true, true, true, true, true, true, true, true, true, false, false] rfl rfl (one_of HT_.out (by kernel_rfl)) (by decide) (fun K hK => ?_)
                          (have p292 : 0 ≤ (t291 : Int) := of_decide_eq_true (by first | (with_reducible assumption) | assumption); have q292 : t291 < (y287.length : Int) := of_decide_eq_true (by first | (with_reducible assumption) | assumption); obtain ⟨ad292, e292, hx292_0⟩ := Kd.at_string (Kd.R_reads' HO289.out).2.2 t291 p292 q292; obtain rfl : adz_v288 = ad292 := (by injection e292))
                          refine value_ (w1 := ?_) (v := ?_) (by rfl) rfl ?_ ?_
                          rotate_left 2
                          · go_simp
                            constructor
                            · rfl
                            · rfl
                          clear hx292_0
                          refine hK.out _ _ ⟨((HB.out.cell (World.block_lt_of_cell? w _ hw290_0)).trans hw290_0), ((HB.out.cell (World.block_lt_of_cell? w _ hw290_1)).trans hw290_1), ((HB.out.cell (World.block_lt_of_cell? w _ hw293_0)).trans hw293_0), ((HB.out.cell (World.block_lt_of_cell? w _ hw293_1)).trans hw293_1)⟩ (fun hHeld => ?_)
                          clear hK K
                          refine norm_ (a' := ?_) ?_ ?_
                          rotate_left
                          · show Act.put _ (some 34) _ = _
                            simp only [Act.put, List.setIfInBounds_toArray, List.set_cons_zero, List.set_cons_succ, i64_w, i32_w]
                            rfl
                          exact norm_ (by first | (simp only [putAll, Act.put, List.setIfInBounds_toArray, List.set_cons_zero, List.set_cons_succ]; done) | (simp only [putAll, Act.put, List.setIfInBounds_toArray, List.set_cons_zero, List.set_cons_succ]; rfl)) (hJ1_8_10_19 (.slice (some adz_v288) y287.length co22, adz_v288, v295) _ ⟨hHeld, (by (with_reducible repeat (first | apply rA_ | apply rN_ | apply rD_)); exact HO289.out), (by (with_reducible repeat (first | apply nA_ | apply nN_ | apply nD_)); exact HO296.out), (by (with_reducible repeat (first | apply nA_ | apply nN_ | apply nD_)); exact HO_7.out), ⟨_, rfl⟩, (by repeat (first | (with_reducible first | exact HB.out | apply bA_ | apply bN_ | apply bD_) | exact HB.out))⟩)
                      · skip
                        rintro ⟨v288, adz_v288⟩ w20 ⟨hS_, h0_, h1_, h2_, h3_⟩
                        have n0_ : Aside0 (Kd.R Kd.string 9 w20 w.heap.size (fun k_ => (w.heap.size ≤ k_)) v288 y287) := ⟨h0_⟩
                        have n1_ : Aside0 (Kd.N k45 45 w20 w.heap.size (fun k_ => (w.heap.size ≤ k_) ∧ some k_ ≠ (v288 : Value).ownBlock) (.slice Ao15 x7_1.length co15) x7_1) := ⟨h1_⟩
                        have n2_ : Aside0 (∃ c_, (v288 : Value) = .slice (some adz_v288) y287.length c_) := ⟨h2_⟩
                        have n3_ : Aside0 (Below w.heap.size w w20) := ⟨h3_⟩
                        clear HO_7
                        clear HB
                        clear h0_ h1_ h2_ h3_
                        have HO289 := n0_
                        have HO_7 := n1_
                        have HA_HO289 := n2_
                        have HB := n3_
                        clear n0_ n1_ n2_ n3_
                        have hHeld : w20.cell? (ad290.add ((x8_1).toNat * 2)) = some (.string ((rd_T49 l0 x8_1).f0)) ∧ w20.cell? ⟨(ad290.add ((x8_1).toNat * 2)).block, (ad290.add ((x8_1).toNat * 2)).off + 1, none⟩ = some (.slice A290_1 ((rd_T49 l0 x8_1).f1).length c290_1) ∧ w20.cell? (ad290.add ((x8_1).toNat * 2)) = some (.string ((rd_T49 l0 x8_1).f0)) ∧ w20.cell? ⟨(ad290.add ((x8_1).toNat * 2)).block, (ad290.add ((x8_1).toNat * 2)).off + 1, none⟩ = some (.slice A290_1 ((rd_T49 l0 x8_1).f1).length c290_1) := hS_
                        obtain ⟨co21, eo21⟩ := HA_HO289.out
                        clear HA_HO289
                        subst eo21
                        refine norm_ (a' := ?_) ?_ ?_
                        rotate_left
                        · simp only [putAll, Act.put, List.setIfInBounds_toArray, List.set_cons_zero, List.set_cons_succ]
                          rfl
                        refine one_ (i := 19) (N := some 43) #[true, true, true, true, true, true, true, true, true, true, true, true, true, true, true, true, true, true, true, true, false, false] rfl rfl (one_of HT_.out (by kernel_rfl)) (by decide) (fun K hK => ?_)
                        refine goes_ Try.func10 (by kernel_rfl) rfl #[.slice A290_1 ((rd_T49 l0 x8_1).f1).length c290_1, .int .i64 a1, .int .i64 (wrap64 (a2 - 1))] (by rfl) rfl rfl (by (try simp only [List.map_toArray, List.map_cons, List.map_nil]); first | done | rfl | (simp only [List.length_drop, List.length_take]; rfl)) ?_
                        with_reducible refine (ih kj3 (by have := HK1.out; have := HJ3.out; omega) _ _ ((rd_T49 l0 x8_1).f1) a1 (wrap64 (a2 - 1)) t294 _ ?side1 ?side2 A13.out).mono ?_
                        (case side1 => repeat (first | exact (Kd.C_below HR293_1.out HB.out) | (with_reducible refine cA_ ?_ _) | (with_reducible refine cN_ ?_ _) | (with_reducible refine cD_ ?_)))
                        (case side2 => exact HC293_1.out)
                        rintro e w22 ⟨v295, rfl, ho0, hb⟩
                        refine ⟨_, rfl, ?_⟩
                        have n0_ := Aside0.mk (Kd.N_elder' (by (with_reducible repeat (first | apply nA_ | apply nN_ | apply nD_)); exact HO_7.out) (Kd.N_base ho0) hb)
                        have n1_ := Aside0.mk (Kd.R_below (by (with_reducible repeat (first | apply rA_ | apply rN_ | apply rD_)); exact HO289.out) hb)
                        have n2_ := Aside0.mk (Kd.N_lower (Kd.N_mono (ok' := fun k_ => (w.heap.size ≤ k_) ∧ some k_ ≠ (.slice Ao15 x7_1.length co15 : Value).ownBlock ∧ some k_ ≠ (.slice (some adz_v288) y287.length co21 : Value).ownBlock) ho0 (fun k_ hk_ => ⟨(Nat.le_trans (below_size (by repeat (first | (with_reducible first | exact HB.out | apply bA_ | apply bN_ | apply bD_) | exact HB.out))) hk_), (Kd.fresh' (Kd.N_lt (by (with_reducible repeat (first | apply nA_ | apply nN_ | apply nD_)); exact HO_7.out)) k_ hk_), (Kd.fresh' (Kd.R_lt (by (with_reducible repeat (first | apply rA_ | apply rN_ | apply rD_)); exact HO289.out)) k_ hk_)⟩)) (below_size (by repeat (first | (with_reducible first | exact HB.out | apply bA_ | apply bN_ | apply bD_) | exact HB.out))))
                        have n3_ := Aside0.mk (below_step (by repeat (first | (with_reducible first | exact HB.out | apply bA_ | apply bN_ | apply bD_) | exact HB.out)) hb)
                        clear HO_7
                        clear HO289
                        clear HB
                        have HO_7 := n0_
                        have HO289 := n1_
                        have HO296 := n2_
                        have HB := n3_
                        clear n0_ n1_ n2_ n3_
                        (try clear hb)
                        (try clear hb2)
                        (try clear hk)
                        (try clear hi)
                        (try clear ho0)
                        refine hK.out _ _ ⟨((HB.out.cell (World.block_lt_of_cell? w _ hw290_0)).trans hw290_0), ((HB.out.cell (World.block_lt_of_cell? w _ hw290_1)).trans hw290_1), ((HB.out.cell (World.block_lt_of_cell? w _ hw293_0)).trans hw293_0), ((HB.out.cell (World.block_lt_of_cell? w _ hw293_1)).trans hw293_1)⟩ (fun hHeld => ?_)
                        clear hK K
                        refine norm_ (a' := ?_) ?_ ?_
                        rotate_left
                        · show Act.put _ (some 43) _ = _
                          simp only [Act.put, List.setIfInBounds_toArray, List.set_cons_zero, List.set_cons_succ, i64_w, i32_w]
                          rfl
                        exact norm_ (by first | (simp only [putAll, Act.put, List.setIfInBounds_toArray, List.set_cons_zero, List.set_cons_succ]; done) | (simp only [putAll, Act.put, List.setIfInBounds_toArray, List.set_cons_zero, List.set_cons_succ]; rfl)) (hJ1_8_10_19 (.slice (some adz_v288) y287.length co21, adz_v288, v295) _ ⟨hHeld, (by (with_reducible repeat (first | apply rA_ | apply rN_ | apply rD_)); exact HO289.out), (by (with_reducible repeat (first | apply nA_ | apply nN_ | apply nD_)); exact Kd.N_mono HO296.out (fun _ hk => ⟨hk.1, ⟨hk.2.2, hk.2.1⟩⟩)), (by (with_reducible repeat (first | apply nA_ | apply nN_ | apply nD_)); exact Kd.N_mono HO_7.out (fun _ hk => ⟨hk.1.1, ⟨hk.1.2, hk.2⟩⟩)), ⟨_, rfl⟩, (by repeat (first | (with_reducible first | exact HB.out | apply bA_ | apply bN_ | apply bD_) | exact HB.out))⟩)
                    rintro ⟨v288, adz_v288, v295⟩ w21 ⟨hS_, h0_, h1_, h2_, h3_, h4_⟩
                    have n0_ : Aside0 (Kd.R Kd.string 9 w21 w.heap.size (fun k_ => (w.heap.size ≤ k_)) v288 y287) := ⟨h0_⟩
                    have n1_ : Aside0 (Kd.N k45 45 w21 w.heap.size (fun k_ => (w.heap.size ≤ k_) ∧ some k_ ≠ (v288 : Value).ownBlock ∧ some k_ ≠ (.slice Ao15 x7_1.length co15 : Value).ownBlock) v295 t294) := ⟨h1_⟩
                    have n2_ : Aside0 (Kd.N k45 45 w21 w.heap.size (fun k_ => (w.heap.size ≤ k_) ∧ some k_ ≠ (v288 : Value).ownBlock ∧ some k_ ≠ (v295 : Value).ownBlock) (.slice Ao15 x7_1.length co15) x7_1) := ⟨h2_⟩
                    have n3_ : Aside0 (∃ c_, (v288 : Value) = .slice (some adz_v288) y287.length c_) := ⟨h3_⟩
                    have n4_ : Aside0 (Below w.heap.size w w21) := ⟨h4_⟩
                    clear HO_7
                    clear HB
                    clear h0_ h1_ h2_ h3_ h4_
                    have HO289 := n0_
                    have HO296 := n1_
                    have HO_7 := n2_
                    have HA_HO289 := n3_
                    have HB := n4_
                    clear n0_ n1_ n2_ n3_ n4_
                    have hHeld : w21.cell? (ad290.add ((x8_1).toNat * 2)) = some (.string ((rd_T49 l0 x8_1).f0)) ∧ w21.cell? ⟨(ad290.add ((x8_1).toNat * 2)).block, (ad290.add ((x8_1).toNat * 2)).off + 1, none⟩ = some (.slice A290_1 ((rd_T49 l0 x8_1).f1).length c290_1) ∧ w21.cell? (ad290.add ((x8_1).toNat * 2)) = some (.string ((rd_T49 l0 x8_1).f0)) ∧ w21.cell? ⟨(ad290.add ((x8_1).toNat * 2)).block, (ad290.add ((x8_1).toNat * 2)).off + 1, none⟩ = some (.slice A290_1 ((rd_T49 l0 x8_1).f1).length c290_1) := hS_
                    obtain ⟨co22, eo22⟩ := HA_HO289.out
                    clear HA_HO289
                    subst eo22
                    obtain ⟨Ao23, co23, eo23⟩ := Kd.N_slice HO296.out
                    (first | subst eo23 | (injection eo23 with f1_ f2_ f3_; have f4_ := f1_.symm; have f5_ := f3_.symm; clear f1_ f2_ f3_; subst f4_; subst f5_))
                    refine norm_ (a' := ?_) ?_ ?_
                    rotate_left
                    · simp only [putAll, Act.put, List.setIfInBounds_toArray, List.set_cons_zero, List.set_cons_succ]
                      rfl
                    refine one_ (i := 20) (N := some 44) #[true, true, true, true, true, true, true, true, true, true, true, true, true, true, true, true, true, true, true, true, true, false] rfl rfl (one_of HT_.out (by kernel_rfl)) (by decide) (fun K hK => ?_)
                    refine goes_ Try.func24 (by kernel_rfl) rfl #[.slice Ao15 x7_1.length co15, .string (rdOf ByteArray.empty y287 t291), .slice Ao23 t294.length co23] (by rfl) rfl rfl (by (try simp only [List.map_toArray, List.map_cons, List.map_nil]); first | done | rfl | (simp only [List.length_drop, List.length_take]; rfl)) ?_
                    with_reducible refine (cadenceref2_With.calls kj3 (fun k_ => ((w.heap.size ≤ k_) ∧ (some k_ ≠ (.slice (some adz_v288) y287.length co22 : Value).ownBlock ∧ some k_ ≠ (.slice Ao23 t294.length co23 : Value).ownBlock))) _ _ x7_1 (rdOf ByteArray.empty y287 t291) (fun k_ => ((w.heap.size ≤ k_) ∧ (some k_ ≠ (.slice (some adz_v288) y287.length co22 : Value).ownBlock ∧ some k_ ≠ (.slice Ao15 x7_1.length co15 : Value).ownBlock))) _ _ t294 t297 _ ?side1 ?side2 A14.out).mono ?_
                    (case side1 => exact Kd.N_V (HO_7.out))
                    (case side2 => exact Kd.N_V (HO296.out))
                    rintro e w24 ⟨v298, rfl, ho0, hb⟩
                    refine ⟨_, rfl, ?_⟩
                    have n0_ := Aside0.mk (Kd.N_elder' (by (with_reducible repeat (first | apply nA_ | apply nN_ | apply nD_)); exact HO_7.out) (Kd.N_base ho0) hb)
                    have n1_ := Aside0.mk (Kd.R_below (by (with_reducible repeat (first | apply rA_ | apply rN_ | apply rD_)); exact HO289.out) hb)
                    have n2_ := Aside0.mk (Kd.N_elder' (by (with_reducible repeat (first | apply nA_ | apply nN_ | apply nD_)); exact HO296.out) (Kd.N_base ho0) hb)
                    have n3_ := Aside0.mk (Kd.N_lower (Kd.N_mono (ok' := fun k_ => (w.heap.size ≤ k_) ∧ some k_ ≠ (.slice (some adz_v288) y287.length co22 : Value).ownBlock) ho0 (fun k_ hk_ => ⟨Or.elim hk_ (fun hs_ => Or.elim hs_ (fun hs_ => hs_.1) (fun hs_ => hs_.1)) (fun hn_ => (Nat.le_trans (below_size (by repeat (first | (with_reducible first | exact HB.out | apply bA_ | apply bN_ | apply bD_) | exact HB.out))) hn_)), Or.elim hk_ (fun hs_ => Or.elim hs_ (fun hs_ => hs_.2.1) (fun hs_ => hs_.2.1)) (fun hn_ => (Kd.fresh' (Kd.R_lt (by (with_reducible repeat (first | apply rA_ | apply rN_ | apply rD_)); exact HO289.out)) k_ hn_))⟩)) (below_size (by repeat (first | (with_reducible first | exact HB.out | apply bA_ | apply bN_ | apply bD_) | exact HB.out))))
                    have n4_ := Aside0.mk (below_step (by repeat (first | (with_reducible first | exact HB.out | apply bA_ | apply bN_ | apply bD_) | exact HB.out)) hb)
                    clear HO_7
                    clear HO289
                    clear HO296
                    clear HB
                    have HO_7 := n0_
                    have HO289 := n1_
                    have HO296 := n2_
                    have HO299 := n3_
                    have HB := n4_
                    clear n0_ n1_ n2_ n3_ n4_
                    (try clear hb)
                    (try clear hb2)
                    (try clear hk)
                    (try clear hi)
                    (try clear ho0)
                    refine hK.out _ _ ⟨((HB.out.cell (World.block_lt_of_cell? w _ hw290_0)).trans hw290_0), ((HB.out.cell (World.block_lt_of_cell? w _ hw290_1)).trans hw290_1), ((HB.out.cell (World.block_lt_of_cell? w _ hw293_0)).trans hw293_0), ((HB.out.cell (World.block_lt_of_cell? w _ hw293_1)).trans hw293_1)⟩ (fun hHeld => ?_)
                    clear hK K
                    refine norm_ (a' := ?_) ?_ ?_
                    rotate_left
                    · show Act.put _ (some 44) _ = _
                      simp only [Act.put, List.setIfInBounds_toArray, List.set_cons_zero, List.set_cons_succ, i64_w, i32_w]
                      rfl
                    refine pure_ (i := 21) (N := some 7) (v := ?_) (a' := ?_) #[true, true, true, true, true, true, true, true, true, true, true, true, true, true, true, true, true, true, true, true, true, true] rfl rfl (any_of HT_.out (by kernel_rfl)) (fun _ _ _ h => h) (Or.inl ⟨by rfl, ?_⟩) ?_ ?_
                    rotate_left
                    · intro w'
                      go_simp
                      with_reducible rfl
                    rotate_left
                    · simp only [Act.put, List.setIfInBounds_toArray, List.set_cons_zero, List.set_cons_succ, i64_w, i32_w]
                      rfl
                    refine done_ (done_of HT_.out (by kernel_rfl)) ?_
                    try go_wp2
                    go_roundg kj3
                    case measure => have := HK1.out; have := HJ3.out; omega
                    case rel => exact ⟨(t297), (wrap64 (x8_1 + 1)), (by first | rfl | (simp; done) | (simp [*]; done)), H', ⟨by have := HK1.out; have := HJ3.out; omega⟩, ⟨by (with_reducible repeat (first | apply nA_ | apply nN_ | apply nD_)); exact Kd.N_mono HO299.out (fun _ hk => hk.1)⟩, ⟨by repeat (first | (with_reducible first | exact HB.out | apply bA_ | apply bN_ | apply bD_) | exact HB.out)⟩⟩
                  · rw [if_neg c12] at H
                    exact absurd H (by simp)
                · rw [if_neg c11] at H
                  exact absurd H (by simp)
              · rw [if_neg c9] at H
                exact absurd H (by simp)
            · rw [if_neg c8] at H
              exact absurd H (by simp)
          · replace c7 := Bool.eq_false_iff.mpr c7
            subst c7
            have H1 : (some x7_1) = some r := by rw [if_neg (show ¬ (false = true) by decide)] at H; exact H
            clear H
            have H := H1
            clear H1
            obtain rfl := Option.some.inj H
            go_wp2
            go_ret
            exact ⟨_, by first | rfl | (simp [errW_none, errW_some] <;> rfl) | (simp [*, errW_none, errW_some] <;> rfl), by (with_reducible repeat (first | apply nA_ | apply nN_ | apply nD_)); exact HO_7.out, by repeat (first | (with_reducible first | exact HB.out | apply bA_ | apply bN_ | apply bD_) | exact HB.out)⟩

end Go.Proofs.Ytbhgocpenbibgaa.PX
/- Small: a tree of raw edges, of five names: in order, so deep, so wide. -/
set_option linter.unusedVariables false
namespace Go.Proofs.Ytbhgocpenbibgaa.PX
open Go.RowKit Go.Proofs.YtbhgocpenbibgaaW.PrintWords Go.Proofs.YtbhgocpenbibgaaW.PrintLast Go.Proofs.YtbhgocpenbibgaaW.PrintMore Go.Proofs.Ytbhgocpenbibgaa
theorem within4 (a : Int) {n : Int} (h0 : 0 < n) (h1 : n ≤ 1000000) : ∃ r, 0 ≤ r ∧ r < n ∧ cadencelaw4_within.f a n = some r := by
  obtain ⟨r, r0, r1, h⟩ := tmod_in a h0 h1
  refine ⟨r, r0, r1, ?_⟩
  unfold cadencelaw4_within.f
  rw [if_neg (by omega), ← h]
  split <;> rfl
def five : List ByteArray := [(⟨#[]⟩ : ByteArray), (⟨#[97]⟩ : ByteArray), (⟨#[98]⟩ : ByteArray), (⟨#[99]⟩ : ByteArray), (⟨#[100]⟩ : ByteArray)]
theorem small_ev {l : List Raw} (h : RawOk l) : ∀ (w D : Nat), w ≤ 100 → D ≤ 100 → ∃ t, Ok w D t ∧ Ev (fun k => cadencelaw4_Small.f k l (w : Int) (D : Int)) t := by
  induction h with
  | mk l hl hk ih =>
    intro w D hw hD
    have stop : ∀ (t : Tr) (i : Nat), (i < l.length → i < w → D = 0) → Ev (fun k => cadencelaw4_Small.l0 k l (w : Int) (D : Int) t (i : Int)) t := by
      intro t i hi
      have h1 : Ev (fun k => cadencelaw4_Small.j1 k l (w : Int) (D : Int) t (i : Int) false) t := by
        refine Ev.step (f := fun _ => some t) (fun k => ?_) (Ev.now _)
        simp only [cadencelaw4_Small.j1]
        rw [if_neg Bool.false_ne_true]
      refine Ev.step (f := fun k => cadencelaw4_Small.j1 k l (w : Int) (D : Int) t (i : Int) false) (fun k => ?_) h1
      simp only [cadencelaw4_Small.l0]
      by_cases c1 : (i : Int) < (l.length : Int)
      · rw [if_pos c1]
        by_cases c2 : (i : Int) < (w : Int)
        · rw [if_pos c2, decide_eq_false (by have := hi (by omega) (by omega); omega)]
        · rw [if_neg c2]
      · rw [if_neg c1]
    have loop : ∀ (m i : Nat) (t : Tr), i + m = l.length → i ≤ w → t.length ≤ i → Ok w D t → ∃ r, Ok w D r ∧ Ev (fun k => cadencelaw4_Small.l0 k l (w : Int) (D : Int) t (i : Int)) r := by
      intro m
      induction m with
      | zero => intro i t hi _ _ ht; exact ⟨t, ht, stop t i (by omega)⟩
      | succ m ihm =>
        intro i t hi hiw htl ht
        by_cases hc : i < w ∧ 0 < D
        · obtain ⟨d, rfl⟩ : ∃ d, D = d + 1 := ⟨D - 1, by omega⟩
          have hil : i < l.length := by omega
          obtain ⟨x, hx, hxe⟩ := ih l[i] (List.getElem_mem hil) w d hw (by omega)
          obtain ⟨r, r0, r1, hr⟩ := within4 (l[i].f0.size : Int) (n := 5) (by omega) (by omega)
          obtain ⟨q, hq, hqe⟩ := ihm (i + 1) (withT t (five[r.toNat]'(by simp [five]; omega)) x) (by omega) (by omega) (by have := withT_length t (five[r.toNat]'(by simp [five]; omega)) x; omega) (ht.withT hx (by have := withT_length t (five[r.toNat]'(by simp [five]; omega)) x; omega))
          refine ⟨q, hq, ?_⟩
          have h1 : Ev (fun k => cadencelaw4_Small.j1 k l (w : Int) ((d + 1 : Nat) : Int) t (i : Int) true) q := by
            refine Ev.step (f := fun k => (cadencelaw4_Small.f k l[i].f1 (w : Int) (d : Int)).bind fun u => (cadenceref2_With.f k t (five[r.toNat]'(by simp [five]; omega)) u).bind fun v => cadencelaw4_Small.l0 k l (w : Int) ((d + 1 : Nat) : Int) v ((i + 1 : Nat) : Int)) (fun k => ?_) (Ev.bind hxe (Ev.bind (with_ev t _ x (by omega)) hqe))
            simp only [cadencelaw4_Small.j1]
            rw [if_pos trivial, Option.bind_some, if_pos (by omega), if_pos (by omega), rdRaw_nat hil, hr, Option.bind_some, if_pos r0, if_pos (by simp; omega), wrap_succ (by omega), show wrap64 (((d + 1 : Nat) : Int) - 1) = (d : Int) by rw [wrap_id (by omega) (by omega)]; omega]
            have hn : rdOf ByteArray.empty five r = five[r.toNat]'(by simp [five]; omega) := by
              have := rdOf_nat (xs := five) (i := r.toNat) (by simp [five]; omega)
              rwa [Int.toNat_of_nonneg r0] at this
            rw [← hn]
            rfl
          refine Ev.step (f := fun k => cadencelaw4_Small.j1 k l (w : Int) ((d + 1 : Nat) : Int) t (i : Int) true) (fun k => ?_) h1
          simp only [cadencelaw4_Small.l0]
          rw [if_pos (by omega), if_pos (by omega), decide_eq_true (by omega)]
        · exact ⟨t, ht, stop t i (by omega)⟩
    obtain ⟨r, hr, he⟩ := loop l.length 0 [] (by omega) (by omega) (by simp) (Ok.nil _ _)
    exact ⟨r, hr, Ev.step (fun k => by simp only [cadencelaw4_Small.f]; rfl) he⟩
end Go.Proofs.Ytbhgocpenbibgaa.PX
