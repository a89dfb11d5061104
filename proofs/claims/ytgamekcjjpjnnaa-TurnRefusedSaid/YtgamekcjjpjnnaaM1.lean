/- Sets of hours as the bits of a number, turned by some hours: plain facts on numbers. No condition. -/
import Derived.Test.YtgamekcjjpjnnaaBase
set_option linter.unusedVariables false
namespace Go.Proofs.Ytgamekcjjpjnnaa
open Go.RowKit

/-- A set of hours, each so much later. -/
def trn (t s k : Nat) : Nat := ((s * 2 ^ k % 4294967296) ||| (s / 2 ^ (t - k))) &&& ((2 ^ t - 1) % 4294967296)

theorem testBit_ge {s t h : Nat} (hs : s < 2 ^ t) (h1 : t ≤ h) : s.testBit h = false :=
  Nat.testBit_lt_two_pow (Nat.lt_of_lt_of_le hs (Nat.pow_le_pow_right (by omega) h1))

theorem pow_small {t : Nat} (ht : t ≤ 24) : 2 ^ t ≤ 16777216 := by
  have : 2 ^ t ≤ 2 ^ 24 := Nat.pow_le_pow_right (by omega) ht
  simpa using this

theorem trn_bit {t s k : Nat} (ht : t ≤ 24) (hk : k < t) (hs : s < 2 ^ t) (h : Nat) : (trn t s k).testBit h = (decide (h < t) && s.testBit ((h + t - k) % t)) := by
  have hp := pow_small ht
  unfold trn
  rw [Nat.mod_eq_of_lt (a := 2 ^ t - 1) (by omega), Nat.testBit_and, Nat.testBit_or, Nat.testBit_two_pow_sub_one]
  by_cases h1 : h < t
  · have e1 : (s * 2 ^ k % 4294967296).testBit h = (decide (k ≤ h) && s.testBit (h - k)) := by
      rw [show (4294967296 : Nat) = 2 ^ 32 from rfl, Nat.testBit_mod_two_pow, Nat.testBit_mul_two_pow]
      have : h < 32 := by omega
      simp [this]
    rw [e1, Nat.testBit_div_two_pow]
    by_cases h2 : k ≤ h
    · have e2 : (h + t - k) % t = h - k := by
        rw [show h + t - k = (h - k) + t by omega, Nat.add_mod_right, Nat.mod_eq_of_lt (by omega)]
      have e3 : s.testBit (h + (t - k)) = false := testBit_ge hs (by omega)
      simp [h1, h2, e2, e3]
    · have e2 : (h + t - k) % t = h + (t - k) := by
        rw [show h + t - k = h + (t - k) by omega, Nat.mod_eq_of_lt (by omega)]
      simp [h1, h2, e2]
  · simp [h1]

theorem trn_lt {t s k : Nat} (ht : t ≤ 24) : trn t s k < 2 ^ t := by
  have hp := pow_small ht
  have h0 : 0 < 2 ^ t := Nat.two_pow_pos t
  unfold trn
  rw [Nat.mod_eq_of_lt (a := 2 ^ t - 1) (by omega)]
  exact Nat.lt_of_le_of_lt Nat.and_le_right (by omega)

/-- The hour as an integer. -/
theorem hour_mod {t h : Nat} {d : Int} (ht : 0 < t) (hh : h < t) : (h + t - (d % (t : Int)).toNat) % t = (((h : Int) - d) % (t : Int)).toNat := by
  have h1 := Int.emod_nonneg d (show (t : Int) ≠ 0 by omega)
  have h2 := Int.emod_lt_of_pos d (show (0 : Int) < t by omega)
  have e : (((h + t - (d % (t : Int)).toNat) % t : Nat) : Int) = ((h : Int) - d) % (t : Int) := by
    rw [Int.natCast_emod, Int.natCast_sub (by omega), Int.natCast_add, Int.toNat_of_nonneg h1]
    rw [show (h : Int) + t - d % (t : Int) = (h - d % (t : Int)) + t by omega, Int.add_emod_right, Int.sub_emod, Int.emod_emod_of_dvd _ (Int.dvd_refl _), ← Int.sub_emod]
  omega

theorem trn_mem {t s h : Nat} {d : Int} (ht0 : 0 < t) (ht : t ≤ 24) (hs : s < 2 ^ t) (hh : h < t) :
    (trn t s (d % (t : Int)).toNat).testBit h = s.testBit (((h : Int) - d) % (t : Int)).toNat := by
  have h1 := Int.emod_nonneg d (show (t : Int) ≠ 0 by omega)
  have h2 := Int.emod_lt_of_pos d (show (0 : Int) < t by omega)
  rw [trn_bit ht (by omega) hs, hour_mod ht0 hh]
  simp [hh]

theorem mask_mem (m h : Nat) : (2 ^ m - 1).testBit h = decide (h < m) := by rw [Nat.testBit_two_pow_sub_one]
end Go.Proofs.Ytgamekcjjpjnnaa
