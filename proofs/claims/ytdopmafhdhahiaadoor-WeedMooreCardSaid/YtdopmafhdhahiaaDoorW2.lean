/- The mirrored and the opposite rule, walked. Their conditions are their premises. -/
import Derived.Test.YtdopmafhdhahiaaDoorW1
set_option linter.unusedVariables false
namespace Go.Proofs.YtdopmafhdhahiaaDoor
open Go.RowKit

def mirP (t : Nat) : Nat := t / 4 ||| (t &&& 2) ||| (t &&& 1) * 4
def mirF (u k : Nat) : Nat := (List.range k).foldl (fun o t => o ||| bit u (mirP t) * 2 ^ t) 0
def oppF (u k : Nat) : Nat := (List.range k).foldl (fun o t => o ||| (1 - bit u (7 - t)) * 2 ^ t) 0

theorem fold_lt (f : Nat → Nat) (hf : ∀ t, f t < 2) (k : Nat) : (List.range k).foldl (fun o t => o ||| f t * 2 ^ t) 0 < 2 ^ k := by
  induction k with
  | zero => simp
  | succ k ih =>
    rw [List.range_succ, List.foldl_append]
    simp only [List.foldl_cons, List.foldl_nil]
    refine Nat.or_lt_two_pow (Nat.lt_trans ih (Nat.pow_lt_pow_right (by omega) (by omega))) ?_
    have h := hf k
    rw [Nat.pow_succ]
    have h2 : f k * 2 ^ k ≤ 1 * 2 ^ k := Nat.mul_le_mul_right _ (by omega)
    have : 0 < 2 ^ k := Nat.two_pow_pos k
    omega

theorem mirF_lt (u : Nat) {k : Nat} (hk : k ≤ 8) : mirF u k < 256 := Nat.lt_of_lt_of_le (fold_lt (fun t => bit u (mirP t)) (fun t => bit_lt _ _) k) (Nat.pow_le_pow_right (by omega) hk : 2 ^ k ≤ 2 ^ 8)
theorem oppF_lt (u : Nat) {k : Nat} (hk : k ≤ 8) : oppF u k < 256 := Nat.lt_of_lt_of_le (fold_lt (fun t => 1 - bit u (7 - t)) (fun t => by omega) k) (Nat.pow_le_pow_right (by omega) hk : 2 ^ k ≤ 2 ^ 8)
theorem mirF_succ (u k : Nat) : mirF u (k + 1) = mirF u k ||| bit u (mirP k) * 2 ^ k := by
  unfold mirF
  rw [List.range_succ, List.foldl_append]
  rfl
theorem oppF_succ (u k : Nat) : oppF u (k + 1) = oppF u k ||| (1 - bit u (7 - k)) * 2 ^ k := by
  unfold oppF
  rw [List.range_succ, List.foldl_append]
  rfl

theorem mirP_eq : ∀ k : Nat, k < 8 → bits .or .i64 (bits .or .i64 ((k : Int) / 4) (bits .and .i64 (k : Int) 2)) (wrap64 (bits .and .i64 (k : Int) 1 * 4)) = (mirP k : Int) := by decide +kernel
theorem mirP_lt : ∀ k : Nat, k < 8 → mirP k < 8 := by decide +kernel
theorem wrap_shift (b k : Nat) (hb : b < 2) (hk : k < 8) : wrap64 ((b : Int) * 2 ^ k) = ((b * 2 ^ k : Nat) : Int) := by
  have h1 : b * 2 ^ k ≤ 1 * 2 ^ 7 := Nat.mul_le_mul (by omega) (Nat.pow_le_pow_right (by omega) (by omega))
  rw [show (b : Int) * 2 ^ k = ((b * 2 ^ k : Nat) : Int) by simp]
  exact wrap64_nat _ (by omega)
theorem or_shift (o b k : Nat) (ho : o < 256) (hb : b < 2) (hk : k < 8) : bits .or .i64 (o : Int) (wrap64 ((b : Int) * 2 ^ k)) = ((o ||| b * 2 ^ k : Nat) : Int) := by
  have h1 : b * 2 ^ k ≤ 1 * 2 ^ 7 := Nat.mul_le_mul (by omega) (Nat.pow_le_pow_right (by omega) (by omega))
  rw [wrap_shift b k hb hk, i64_or_nat _ _ (by omega) (by omega)]

set_option maxRecDepth 100000 in
set_option maxHeartbeats 1000000 in
theorem mirrored_any (u : Nat) (hu : u < 256) (w : World) : Calls Tryd.prog 76 #[.int .i64 u] w fun e w' => e = .returned (.int .i64 (mirF u 8)) ∧ w' = w := by
  go_enter Tryd.func76, Tryd.ntmps76
  go_wp2_with fail
  go_loopg [5, 3] 8 (fun gm iv ov wr => ∃ k : Nat, k ≤ 8 ∧ gm = 8 - k ∧ iv = .int .i64 k ∧ ov = .int .i64 (mirF u k) ∧ wr = w)
  case atStart => exact ⟨0, by omega, by omega, rfl, rfl, rfl⟩
  case round =>
    obtain ⟨k, hk, rfl, rfl, rfl, rfl⟩ := hrel
    by_cases hlt : k < 8
    · have hp := mirP_eq k hlt
      go_wp2_with fail
      refine (of_any u (mirP k) hu (mirP_lt k hlt) _).mono ?_
      rintro e W ⟨rfl, rfl⟩
      have hq := or_shift (mirF u k) (bit u (mirP k)) k (mirF_lt u hk) (bit_lt _ _) hlt
      go_wp2_with fail
      go_roundg (8 - (k + 1))
      case measure => omega
      case rel => exact ⟨k + 1, by omega, rfl, by go_num, by rw [mirF_succ]; try assumption, rfl⟩
    · obtain rfl : k = 8 := by omega
      go_wp2_with fail
      go_ret
      exact ⟨rfl, rfl⟩

theorem opposite_any (u : Nat) (hu : u < 256) (w : World) : Calls Tryd.prog 77 #[.int .i64 u] w fun e w' => e = .returned (.int .i64 (oppF u 8)) ∧ w' = w := by
  go_enter Tryd.func77, Tryd.ntmps77
  go_wp2_with fail
  go_loopg [5, 3] 8 (fun gm iv ov wr => ∃ k : Nat, k ≤ 8 ∧ gm = 8 - k ∧ iv = .int .i64 k ∧ ov = .int .i64 (oppF u k) ∧ wr = w)
  case atStart => exact ⟨0, by omega, by omega, rfl, rfl, rfl⟩
  case round =>
    obtain ⟨k, hk, rfl, rfl, rfl, rfl⟩ := hrel
    by_cases hlt : k < 8
    · have hp : (7 : Int) - (k : Int) = ((7 - k : Nat) : Int) := by omega
      go_wp2_with fail
      refine (of_any u (7 - k) hu (by omega) _).mono ?_
      rintro e W ⟨rfl, rfl⟩
      have hb := bit_lt u (7 - k)
      have hp2 : (1 : Int) - (bit u (7 - k) : Int) = ((1 - bit u (7 - k) : Nat) : Int) := by omega
      have hq := or_shift (oppF u k) (1 - bit u (7 - k)) k (oppF_lt u hk) (by omega) hlt
      go_wp2_with fail
      go_roundg (8 - (k + 1))
      case measure => omega
      case rel => exact ⟨k + 1, by omega, rfl, by go_num, by rw [oppF_succ]; try assumption, rfl⟩
    · obtain rfl : k = 8 := by omega
      go_wp2_with fail
      go_ret
      exact ⟨rfl, rfl⟩
end Go.Proofs.YtdopmafhdhahiaaDoor
