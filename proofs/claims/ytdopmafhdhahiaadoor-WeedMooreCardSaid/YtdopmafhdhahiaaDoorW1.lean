/- The bits of a rule: of, known, Rule, becomes. Their conditions are their premises. -/
import Derived.Test.YtdopmafhdhahiaaDoorBase
set_option linter.unusedVariables false
namespace Go.Proofs.YtdopmafhdhahiaaDoor
open Go.RowKit

/-- What comes of a plot and its neighbours. -/
def bit (u t : Nat) : Nat := u / 2 ^ t % 2

theorem bit_lt (u t : Nat) : bit u t < 2 := Nat.mod_lt _ (by decide)

theorem known_any (u : Int) (w : World) : Calls Tryd.prog 17 #[.int .i64 u] w fun e w' => e = .returned (.bool (decide (0 ≤ u ∧ u ≤ 255))) ∧ w' = w := by
  go_enter Tryd.func17, Tryd.ntmps17
  go_wp2_with fail
  all_goals
    go_ret
    exact ⟨ret_bool (by simp <;> omega), rfl⟩

theorem rule_any (u : Int) (w : World) : Calls Tryd.prog 19 #[.int .i64 u] w fun e w' => e = .returned (.bool (decide (0 ≤ u ∧ u ≤ 255))) ∧ w' = w := by
  go_enter Tryd.func19, Tryd.ntmps19
  go_wp2_with fail
  all_goals
    go_ret
    exact ⟨ret_bool (by simp <;> omega), rfl⟩

theorem bit_and (u t : Nat) (hu : u < 256) : bits .and .i64 ((u : Int) / 2 ^ t) 1 = (bit u t : Int) := by
  rw [show (u : Int) / 2 ^ t = ((u / 2 ^ t : Nat) : Int) by simp, show (1 : Int) = ((1 : Nat) : Int) by rfl, i64_and_nat _ _ (Nat.lt_of_le_of_lt (Nat.div_le_self _ _) (by omega)) (by omega), Nat.and_one_is_mod]
  rfl

theorem of_any (u t : Nat) (hu : u < 256) (ht : t < 8) (w : World) : Calls Tryd.prog 23 #[.int .i64 u, .int .i64 t] w fun e w' => e = .returned (.int .i64 (bit u t)) ∧ w' = w := by
  go_enter Tryd.func23, Tryd.ntmps23
  go_wp2_with fail
  go_ret
  exact ⟨ret_int (bit_and u t hu), rfl⟩
theorem becomes_any (u l c r : Nat) (hu : u < 256) (hl : l < 2) (hc : c < 2) (hr : r < 2) (w : World) : Calls Tryd.prog 22 #[.int .i64 u, .int .i64 l, .int .i64 c, .int .i64 r] w fun e w' => e = .returned (.int .i64 (bit u (4 * l + 2 * c + r))) ∧ w' = w := by
  go_enter Tryd.func22, Tryd.ntmps22
  go_wp2_with fail
  go_ret
  refine ⟨ret_int ?_, rfl⟩
  rw [show (u : Int) / 2 ^ (4 * l + 2 * c + r) = ((u / 2 ^ (4 * l + 2 * c + r) : Nat) : Int) by simp]
  unfold bit
  rw [Int.tmod_eq_emod_of_nonneg (Int.natCast_nonneg _)]
  simp
end Go.Proofs.YtdopmafhdhahiaaDoor
