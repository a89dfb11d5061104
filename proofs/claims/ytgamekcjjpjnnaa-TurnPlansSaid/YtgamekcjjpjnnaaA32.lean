/- The statements' mild: few lists of hours. No condition. -/
import Derived.Test.YtgamekcjjpjnnaaA31
set_option linter.unusedVariables false
namespace Go.Proofs.Ytgamekcjjpjnnaa
open Go.RowKit

/-- What mild says. -/
def MildPost (t n : Int) (w : World) (e : Ending) (w' : World) : Prop := ∃ b : Bool, e = .returned (.bool b) ∧ w' = w ∧ (b = true → ∀ T N : Nat, t = T → n = N → 1 ≤ T → T ≤ 24 → 1 ≤ N → N ≤ 6 → T ^ (N - 1) ≤ 10000)

theorem mild_any (t n : Int) (w : World) (ht : I64 t) (hn : I64 n) : Calls Try.prog 20 #[.int .i64 t, .int .i64 n] w (MildPost t n w) := by
  obtain ⟨ht1, ht2⟩ := ht
  obtain ⟨hn1, hn2⟩ := hn
  obtain ⟨u, hu⟩ : ∃ u : Int, (if 100 < t then 100 else t) = u := ⟨_, rfl⟩
  have hu2 : u ≤ 100 ∧ u ≤ t ∧ (u = 100 ∨ u = t) := by split at hu <;> omega
  obtain ⟨c, hc⟩ : ∃ c : Nat, (if 1 < u then u else 1) = (c : Int) := ⟨(if 1 < u then u else 1).toNat, by split <;> omega⟩
  have hc2 : 1 ≤ c ∧ c ≤ 100 ∧ (1 ≤ t → t ≤ 24 → (c : Int) = t) := by split at hc <;> omega
  obtain ⟨m, hm⟩ : ∃ m : Int, (if 20 < n then 20 else n) = m := ⟨_, rfl⟩
  have hm2 : m ≤ 20 ∧ (n ≤ 6 → m = n) := by split at hm <;> omega
  have HC2 := Lib.hid hc2; have HM2 := Lib.hid hm2
  have hc100 := hc2.2.1
  have hm20 := hm2.1
  clear hu2 hc2 hm2
  go_enter Try.func20, Try.ntmps20
  go_wp2
  go_loop [5, 6] (fun av iv => ∃ k : Nat, k ≤ 19 ∧ iv = .int .i64 ((k : Int) + 1) ∧ av = .int .i64 ((c ^ k : Nat) : Int) ∧ ((k : Int) + 1 ≤ m ∨ k = 0) ∧ c ^ k ≤ 1000000) (fun _ iv => (20 - intOf iv).toNat)
  case atStart => exact ⟨0, by omega, rfl, rfl, .inr rfl, by simp⟩
  case round =>
    obtain ⟨k, hk, rfl, rfl, hkn, hb⟩ := hrel
    obtain ⟨z, hz⟩ : ∃ z, c ^ k = z := ⟨_, rfl⟩
    rw [hz] at hb ⊢
    have HZ := Lib.hid hz; have HKN := Lib.hid hkn
    clear hz hkn
    by_cases hkm : (k : Int) + 1 < m
    · have d1 : decide ((k : Int) + 1 < m) = true := by simpa using hkm
      by_cases hz1 : z ≤ 10000
      · have d2 : decide ((z : Int) ≤ 10000) = true := by rw [decide_eq_true_eq]; omega
        have hzc : z * c ≤ 10000 * 100 := Nat.mul_le_mul hz1 hc100
        obtain ⟨y, hy⟩ : ∃ y, z * c = y := ⟨_, rfl⟩
        have hw : wrap64 ((z : Int) * (c : Int)) = (y : Int) := by rw [show (z : Int) * (c : Int) = ((z * c : Nat) : Int) by simp, hy]; unfold wrap64; omega
        have HY := Lib.hid hy; have HW := Lib.hid hw
        rw [hy] at hzc
        clear hy hb hw
        go_wp2_with fail
        go_round
        case rel => exact ⟨k + 1, by omega, by go_num, by rw [Nat.pow_succ, HZ.out, HY.out, HW.out], .inl (by omega), by rw [Nat.pow_succ, HZ.out, HY.out]; omega⟩
        case measure => simp [intOf]; omega
      · have d2 : decide ((z : Int) ≤ 10000) = false := by rw [decide_eq_false_iff_not]; omega
        go_wp2_with fail
        go_ret
        exact ⟨false, rfl, rfl, fun h => by cases h⟩
    · have d1 : decide ((k : Int) + 1 < m) = false := by simpa using hkm
      go_wp2_with fail
      go_ret
      refine ⟨decide ((z : Int) ≤ 10000), rfl, rfl, fun h T N hT hN h1 h2 h3 h4 => ?_⟩
      rw [decide_eq_true_eq] at h
      have hct := HC2.out.2.2 (by omega) (by omega)
      have hmn := HM2.out.2 (by omega)
      have hkn := HKN.out
      obtain rfl : T = c := by omega
      have hkN : N - 1 ≤ k := by omega
      have hk2 : k ≤ N - 1 := by omega
      rw [show N - 1 = k by omega, HZ.out]
      omega
end Go.Proofs.Ytgamekcjjpjnnaa
