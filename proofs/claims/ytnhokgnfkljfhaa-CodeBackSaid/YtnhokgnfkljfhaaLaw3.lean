/- Package cadencelaw1: bytes whole, with one more, with one less. -/
import Derived.Test.YtnhokgnfkljfhaaLaw2
set_option linter.unusedVariables false
set_option linter.unusedSimpArgs false
namespace Go.Proofs.Ytnhokgnfkljfhaa
open Go.RowKit

/-- Where a reader stands, in round k: the whole, one more, one less. -/
def Pk (k : Nat) (rest : List UInt8) (s : Rs) (ok : Bool) : Prop :=
  (k = 0 → s = (rest, 0) ∧ ok = true) ∧ (k = 1 → s = (rest ++ [7], 0) ∧ ok = true) ∧ (k = 2 → (rest ≠ [] ∧ s = (rest.dropLast, 0)) ∨ s.2 = 8)

theorem Pk.step {α : Type} {f : Rs → α × Rs} {e : List UInt8} {v : α} {k : Nat} {rest : List UInt8} {s : Rs} {ok b : Bool} (h : Pk k (e ++ rest) s ok) (he : e ≠ [])
    (h1 : ∀ r, f (e ++ r, 0) = (v, (r, 0))) (h2 : (f (e.dropLast, 0)).2.2 = 8) (h3 : ∀ l, (f (l, 8)).2.2 = 8) (hb : (f s).1 = v → b = ok) : Pk k rest (f s).2 b := by
  obtain ⟨k0, k1, k2⟩ := h
  refine ⟨fun hk => ?_, fun hk => ?_, fun hk => ?_⟩
  · obtain ⟨rfl, rfl⟩ := k0 hk
    rw [h1] at hb ⊢
    exact ⟨rfl, hb rfl⟩
  · obtain ⟨rfl, rfl⟩ := k1 hk
    rw [List.append_assoc, h1] at hb ⊢
    exact ⟨rfl, hb rfl⟩
  · rcases k2 hk with ⟨_, rfl⟩ | h8
    · by_cases hr : rest = []
      · subst hr
        rw [List.append_nil]
        exact .inr h2
      · rw [List.dropLast_append_of_ne_nil hr, h1]
        exact .inl ⟨hr, rfl⟩
    · obtain ⟨l, er⟩ := s
      simp only at h8
      subst h8
      exact .inr (h3 l)

theorem intS_cut8 (l : List UInt8) : (intS (l, 8)).2.2 = 8 := by rw [intS_bad l (by decide)]
theorem byteS_cut8 (l : List UInt8) : (byteS (l, 8)).2.2 = 8 := by rw [byteS_bad l (by decide)]
theorem textS_cut8 (l : List UInt8) : (textS (l, 8)).2.2 = 8 := by rw [textS_bad l (by decide)]
theorem intS_last (z : Int) : (intS ((le (u64 z) 8).dropLast, 0)).2.2 = 8 := by
  rw [intS_cut (by rw [List.length_dropLast, le_length]; omega)]
theorem byteS_last (z : Int) : (byteS (([u8 z] : List UInt8).dropLast, 0)).2.2 = 8 := by
  have : ([u8 z] : List UInt8).dropLast = [] := rfl
  rw [this]
  rfl
theorem textS_last {C : List UInt8} (h : C.length < 65536) : (textS ((le C.length 2 ++ C).dropLast, 0)).2.2 = 8 := by
  by_cases hC : C = []
  · subst hC
    rfl
  · rw [List.dropLast_append_of_ne_nil hC]
    unfold textS
    rw [takeS_app _ C.dropLast (le_length _ 2)]
    simp only [num_le]
    have e : C.length % 256 ^ 2 = C.length := by omega
    have hl : 0 < C.length := by cases C with | nil => exact absurd rfl hC | cons a b => simp
    rw [e, takeS_more (by rw [List.length_dropLast]; omega)]

theorem Pk.int {k : Nat} {z : Int} {rest : List UInt8} {s : Rs} {ok b : Bool} (h : Pk k (le (u64 z) 8 ++ rest) s ok) (hz : -9223372036854775808 ≤ z) (hz' : z ≤ 9223372036854775807) (hb : (intS s).1 = z → b = ok) : Pk k rest (intS s).2 b :=
  h.step (by intro e; have := le_length (u64 z) 8; rw [e] at this; cases this) (intS_enc hz hz') (intS_last z) intS_cut8 hb
theorem Pk.byte {k : Nat} {z : Int} {rest : List UInt8} {s : Rs} {ok b : Bool} (h : Pk k ([u8 z] ++ rest) s ok) (hb : (byteS s).1 = z % 256 → b = ok) : Pk k rest (byteS s).2 b :=
  h.step (by simp) (byteS_enc z) (byteS_last z) byteS_cut8 hb
theorem Pk.text {k : Nat} {C : List UInt8} {rest : List UInt8} {s : Rs} {ok b : Bool} (h : Pk k (le C.length 2 ++ C ++ rest) s ok) (hC : C.length < 65536) (hb : (textS s).1 = C → b = ok) : Pk k rest (textS s).2 b :=
  h.step (by intro e; have := congrArg List.length e; rw [List.length_append, le_length] at this; simp at this) (textS_enc hC) (textS_last hC) textS_cut8 hb

theorem Pk.zero (B : List UInt8) : Pk 0 B (B, 0) true := ⟨fun _ => ⟨rfl, rfl⟩, fun h => (by cases h), fun h => (by cases h)⟩
theorem Pk.one (B : List UInt8) : Pk 1 B (B ++ [7], 0) true := ⟨fun h => (by cases h), fun _ => ⟨rfl, rfl⟩, fun h => (by cases h)⟩
theorem Pk.two {B : List UInt8} (h : B ≠ []) : Pk 2 B (B.dropLast, 0) true := ⟨fun h => (by cases h), fun h => (by cases h), fun _ => .inl ⟨h, rfl⟩⟩

def encI (l : List Int) : List UInt8 := l.flatMap fun z => le (u64 z) 8
def encT (l : List ByteArray) : List UInt8 := l.flatMap fun s => le s.data.toList.length 2 ++ s.data.toList
theorem encI_snoc {l : List Int} {j : Nat} (h : j < l.length) : encI (l.take (j + 1)) = encI (l.take j) ++ le (u64 l[j]) 8 := by
  unfold encI
  rw [List.take_succ_eq_append_getElem h, List.flatMap_append]
  simp only [List.flatMap_cons, List.flatMap_nil, List.append_nil]
theorem encI_drop {l : List Int} {j : Nat} (h : j < l.length) : encI (l.drop j) = le (u64 l[j]) 8 ++ encI (l.drop (j + 1)) := by
  unfold encI
  rw [List.drop_eq_getElem_cons h]
  simp only [List.flatMap_cons]
theorem encT_snoc {l : List ByteArray} {j : Nat} (h : j < l.length) : encT (l.take (j + 1)) = encT (l.take j) ++ (le l[j].data.toList.length 2 ++ l[j].data.toList) := by
  unfold encT
  rw [List.take_succ_eq_append_getElem h, List.flatMap_append]
  simp only [List.flatMap_cons, List.flatMap_nil, List.append_nil]
theorem encT_drop {l : List ByteArray} {j : Nat} (h : j < l.length) : encT (l.drop j) = le l[j].data.toList.length 2 ++ l[j].data.toList ++ encT (l.drop (j + 1)) := by
  unfold encT
  rw [List.drop_eq_getElem_cons h]
  simp only [List.flatMap_cons, List.append_assoc]
theorem data_eq {l : List UInt8} {s : ByteArray} : (⟨l.toArray⟩ : ByteArray) = s ↔ l = s.data.toList := by
  obtain ⟨a⟩ := s
  obtain ⟨a⟩ := a
  constructor
  · intro h
    injection h with h
    injection h with h
  · intro h
    subst h
    rfl
theorem Pk.byteTo {m : Nat} {z : Int} {r : List UInt8} {s : Rs} {b : Bool} (h : Pk m ([u8 z] ++ r) s b) (hz : 0 ≤ z) (hz' : z < 256) (hb : b = true) : ∃ v s1, byteS s = (v, s1) ∧ Pk m r s1 (v == z) :=
  ⟨(byteS s).1, (byteS s).2, rfl, h.byte (fun e => by rw [e, hb]; simp; omega)⟩
theorem Pk.intTo {m i : Nat} {l : List Int} {r : List UInt8} {s : Rs} {b : Bool} (hi : i < l.length) (h : Pk m (encI (l.drop i) ++ r) s b) (hz : -9223372036854775808 ≤ l[i]) (hz' : l[i] ≤ 9223372036854775807) :
    ∃ v s1, intS s = (v, s1) ∧ Pk m (encI (l.drop (i + 1)) ++ r) s1 ((v == l[i]) && b) := by
  rw [encI_drop hi, List.append_assoc] at h
  exact ⟨(intS s).1, (intS s).2, rfl, h.int hz hz' (fun e => by rw [e]; simp)⟩
theorem Pk.textTo {m i : Nat} {l : List ByteArray} {s : Rs} {b : Bool} (hi : i < l.length) (h : Pk m (encT (l.drop i)) s b) (hz : l[i].size ≤ 200) :
    ∃ v s1, textS s = (v, s1) ∧ Pk m (encT (l.drop (i + 1))) s1 ((v == l[i].data.toList) && b) := by
  rw [encT_drop hi] at h
  exact ⟨(textS s).1, (textS s).2, rfl, h.text (by simp; omega) (fun e => by rw [e]; simp)⟩
theorem Pk.end0 {s : Rs} {b : Bool} (h : Pk 0 [] s b) : endS s = 0 ∧ b = true := by
  obtain ⟨h, _⟩ := h
  obtain ⟨rfl, hb⟩ := h rfl
  exact ⟨endS_nil, hb⟩
theorem Pk.end1 {s : Rs} {b : Bool} (h : Pk 1 [] s b) : endS s = 9 ∧ b = true := by
  obtain ⟨_, h, _⟩ := h
  obtain ⟨rfl, hb⟩ := h rfl
  exact ⟨endS_more (by simp), hb⟩
theorem Pk.end2 {s : Rs} {b : Bool} (h : Pk 2 [] s b) : endS s = 8 ∧ True := by
  obtain ⟨_, _, h⟩ := h
  rcases h rfl with ⟨h, _⟩ | h
  · exact absurd rfl h
  · obtain ⟨l, e⟩ := s
    simp only at h
    subst h
    exact ⟨endS_bad l (by decide), trivial⟩
end Go.Proofs.Ytnhokgnfkljfhaa
