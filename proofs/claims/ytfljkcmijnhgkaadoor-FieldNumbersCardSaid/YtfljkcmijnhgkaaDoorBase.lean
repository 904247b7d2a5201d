/- Lemmas on numbers and lists that the walks use. -/
import Derived.WalkKit
import Derived.WalkSpells
import Derived.Lib.Hide
namespace Go.Proofs.YtfljkcmijnhgkaaDoor
open Go.RowKit

theorem i64_and_one {b : Int} (h0 : 0 ≤ b) (h1 : b ≤ 9223372036854775807) : bits BinOp.and IntKind.i64 b 1 = b % 2 := by
  have two63 : (2 : Int) ^ 63 = 9223372036854775808 := by decide
  have h := bits_mask .i64 63 (by decide) (fun n h0 h1 => by rw [two63] at h1; rw [IntKind.wrap_i64]; omega) 1 (by decide) b h0 (by rw [two63]; omega)
  have e : ((2 : Int) ^ 1 - 1) = 1 := by decide
  rw [e] at h
  exact h

/-- A product of two residues is small. -/
theorem mul_bd {a b : Int} (ha : 0 ≤ a) (ha2 : a < 65521) (hb : 0 ≤ b) (hb2 : b < 65521) : 0 ≤ a * b ∧ a * b ≤ 4292870400 := by
  have h1 : 0 ≤ a * b := Int.mul_nonneg ha hb
  have h2 : a * b ≤ 65520 * 65520 := Int.mul_le_mul (by omega) (by omega) hb (by omega)
  exact ⟨h1, by omega⟩
theorem pow_two_ (a : Int) : a ^ 2 = a * a := by rw [Int.pow_succ, Int.pow_succ]; simp
theorem emod_pow_ (a m : Int) (n : Nat) : (a % m) ^ n % m = a ^ n % m := by
  induction n with
  | zero => simp
  | succ n ih => rw [Int.pow_succ, Int.pow_succ, Int.mul_emod, ih, Int.emod_emod_of_dvd _ (Int.dvd_refl _), ← Int.mul_emod]
/-- One step of 'squares are multiplied'. -/
theorem pow_even (c a b : Int) (hb : 0 < b) (h2 : b % 2 = 0) : c * (a * a % 65521) ^ (b / 2).toNat % 65521 = c * a ^ b.toNat % 65521 := by
  have e : b.toNat = 2 * (b / 2).toNat := by omega
  rw [e, Int.pow_mul, Int.mul_emod, emod_pow_, ← Int.mul_emod, pow_two_]
theorem pow_odd (c a b : Int) (hb : 0 < b) (h2 : b % 2 = 1) : c * a % 65521 * (a * a % 65521) ^ (b / 2).toNat % 65521 = c * a ^ b.toNat % 65521 := by
  have e : b.toNat = 2 * (b / 2).toNat + 1 := by omega
  rw [e, Int.pow_succ, Int.pow_mul, Int.mul_emod, emod_pow_, Int.emod_emod_of_dvd _ (Int.dvd_refl _), ← Int.mul_emod, pow_two_]
  congr 1; simp only [Int.mul_assoc, Int.mul_comm]
end Go.Proofs.YtfljkcmijnhgkaaDoor
