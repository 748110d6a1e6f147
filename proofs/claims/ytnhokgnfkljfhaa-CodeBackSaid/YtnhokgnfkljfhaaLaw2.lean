/- Package cadencelaw1: what is written reads back. -/
import Derived.Test.YtnhokgnfkljfhaaLaw1
set_option linter.unusedVariables false
set_option linter.unusedSimpArgs false
namespace Go.Proofs.Ytnhokgnfkljfhaa
open Go.RowKit

theorem and255_nat (z : Int) : (BitVec.ofInt 64 z &&& BitVec.ofInt 64 255).toNat = (z % 256).toNat := by
  rw [BitVec.toNat_and]
  have e : (BitVec.ofInt 64 255).toNat = 2 ^ 8 - 1 := by decide
  rw [e, Nat.and_two_pow_sub_one_eq_mod, BitVec.toNat_ofInt]
  omega
theorem and255 (z : Int) : bits .and .i64 z 255 = z % 256 := by
  show IntKind.i64.wrap (((BitVec.ofInt 64 z &&& BitVec.ofInt 64 255).toNat : Nat) : Int) = z % 256
  rw [and255_nat]
  simp only [IntKind.wrap_i64]
  omega

theorem num_le (v k : Nat) : num (le v k) = v % 256 ^ k := by
  induction k with
  | zero => simp [le, num]; omega
  | succ k ih =>
    rw [le_succ, num_snoc, ih, le_length, Nat.pow_succ, Nat.mod_mul, ← pow256]
    simp
theorem takeS_app (a r : List UInt8) {k : Nat} (h : a.length = k) : takeS (a ++ r, 0) k = (a, (r, 0)) := by
  subst h
  rw [takeS_some (by simp)]
  simp
theorem intS_enc {z : Int} (h : -9223372036854775808 ≤ z) (h' : z ≤ 9223372036854775807) (r : List UInt8) : intS (le (u64 z) 8 ++ r, 0) = (z, (r, 0)) := by
  unfold intS
  rw [takeS_app _ r (le_length _ 8)]
  simp only [num_le]
  have e : (256 : Nat) ^ 8 = 18446744073709551616 := by decide
  rw [e]
  congr 1
  unfold wrap64 u64
  omega
theorem byteS_enc (z : Int) (r : List UInt8) : byteS ([u8 z] ++ r, 0) = (z % 256, (r, 0)) := by
  unfold byteS
  rw [takeS_app (k := 1) [u8 z] r rfl]
  simp only [num, u8]
  congr 1
  simp
  omega
theorem textS_enc {C : List UInt8} (h : C.length < 65536) (r : List UInt8) : textS (le C.length 2 ++ C ++ r, 0) = (C, (r, 0)) := by
  unfold textS
  rw [List.append_assoc, takeS_app _ (C ++ r) (le_length _ 2)]
  simp only [num_le]
  have e : C.length % 256 ^ 2 = C.length := by omega
  rw [e, takeS_app C r rfl]
end Go.Proofs.Ytnhokgnfkljfhaa
