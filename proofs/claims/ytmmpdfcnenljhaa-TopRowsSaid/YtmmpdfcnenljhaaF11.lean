/- The value of a polynomial at a point, and powers, walked. Their conditions are their premises. -/
import Derived.Test.YtmmpdfcnenljhaaF10
set_option linter.unusedVariables false
namespace Go.Proofs.Ytmmpdfcnenljhaa
open Go.RowKit

theorem wrap64_mod (z : Int) : wrap64 z % 18446744073709551616 = z % 18446744073709551616 := by unfold wrap64; omega
theorem wrap64_congr {a b : Int} (h : a % 18446744073709551616 = b % 18446744073709551616) : wrap64 a = wrap64 b := by unfold wrap64; omega
theorem wrap64_mul (a b : Int) : wrap64 (wrap64 a * b) = wrap64 (a * b) := wrap64_congr (by
  rw [Int.mul_emod, wrap64_mod, ← Int.mul_emod])
theorem wrap64_mul_r (a b : Int) : wrap64 (a * wrap64 b) = wrap64 (a * b) := by rw [Int.mul_comm, wrap64_mul, Int.mul_comm]
theorem wrap64_add (a b : Int) : wrap64 (wrap64 a + b) = wrap64 (a + b) := by unfold wrap64; omega
theorem wrap64_add_r (a b : Int) : wrap64 (a + wrap64 b) = wrap64 (a + b) := by unfold wrap64; omega
theorem wrap64_id {z : Int} (h : I64 z) : wrap64 z = z := by unfold I64 at h; unfold wrap64; omega
theorem wrap64_i64 (z : Int) : I64 (wrap64 z) := by unfold I64 wrap64; omega

set_option maxRecDepth 100000 in
set_option maxHeartbeats 1000000 in
theorem power_any (x : Int) (k : Nat) (w : World) (hk : k ≤ 1000) :
    Calls Try.prog 24 #[.int .i64 x, .int .i64 (k : Int)] w fun e w' => e = .returned (.int .i64 (wrap64 (x ^ k))) ∧ w' = w := by
  go_enter Try.func24, Try.ntmps24
  go_wp2_with fail
  go_loopg [7, 5] k (fun gm iv pv wr => ∃ (i : Nat) (p : Int), i ≤ k ∧ gm = k - i ∧ iv = .int .i64 i ∧ pv = .int .i64 p ∧ Hid (p = wrap64 (x ^ i)) ∧ wr = w)
  case atStart => exact ⟨0, 1, by omega, by omega, rfl, rfl, Lib.hid (by simp [wrap64]), rfl⟩
  case round =>
    obtain ⟨i, p, hi, rfl, rfl, rfl, hp, rfl⟩ := hrel
    by_cases hlt : i < k
    · go_wp2_with fail
      go_roundg (k - (i + 1))
      case measure => omega
      case rel => exact ⟨i + 1, _, by omega, rfl, by go_num, rfl, Lib.hid (by rw [hp.out, wrap64_mul, Int.pow_succ]), rfl⟩
    · have hki : i = k := by omega
      subst hki
      go_wp2_with fail
      go_ret
      exact ⟨by obtain rfl := hp.out; rfl, rfl⟩

/-- A row of a polynomial at x, its last c places. -/
def rowH (T : List Int) (x : Int) (j : Nat) : Nat → Int
  | 0 => 0
  | c + 1 => rowH T x j c * x + T.getD (j * 15 + (14 - c)) 0
/-- A polynomial at a point, its last d rows. -/
def atH (T : List Int) (x y : Int) : Nat → Int
  | 0 => 0
  | d + 1 => atH T x y d * y + rowH T x (14 - d) 15
def atV (T : List Int) (x y : Int) : Int := atH T x y 15

theorem poly_int {w : World} {p : Nat} {T : List Int} (h : PolyAt w p T) {j : Nat} (hj : j < 225) : w.cell? ⟨p, j, none⟩ = some (.int .i64 (T.getD j 0)) :=
  poly_cell h (by rw [List.getElem?_map, List.getD_eq_getElem?_getD, List.getElem?_eq_getElem (by rw [h.2]; exact hj)]; rfl)

set_option maxRecDepth 100000 in
set_option maxHeartbeats 1000000 in
theorem at_any (T : List Int) (p : Nat) (x y : Int) (w : World) (hT : PolyAt w p T) :
    Calls Try.prog 26 #[.pointer (some ⟨p, 0, none⟩), .int .i64 x, .int .i64 y] w fun e w' => e = .returned (.int .i64 (wrap64 (atV T x y))) ∧ w' = w := by
  have HT := Lib.hid hT
  clear hT
  go_enter Try.func26, Try.ntmps26
  go_wp2_with fail
  go_loopg [8, 7] 15 (fun gm iv ov wr => ∃ (d : Nat) (o : Int), d ≤ 15 ∧ gm = 15 - d ∧ iv = .int .i64 (14 - (d : Int)) ∧ ov = .int .i64 o ∧ Hid (o = wrap64 (atH T x y d)) ∧ wr = w)
  case atStart => exact ⟨0, 0, by omega, by omega, rfl, rfl, Lib.hid (by simp [wrap64, atH]), rfl⟩
  case round =>
    obtain ⟨d, o, hd, rfl, rfl, rfl, ho, rfl⟩ := hrel
    by_cases hlt : d < 15
    · have hq : decide ((0 : Int) ≤ 14 - (d : Int)) = true := by rw [decide_eq_true_eq]; omega
      go_wp2_with fail
      go_loopg [10, 9] 15 (fun gm iv ov wr' => ∃ (c : Nat) (r : Int), c ≤ 15 ∧ gm = 15 - c ∧ iv = .int .i64 (14 - (c : Int)) ∧ ov = .int .i64 r ∧ Hid (r = wrap64 (rowH T x (14 - d) c)) ∧ wr' = wr)
      case atStart => exact ⟨0, 0, by omega, by omega, rfl, rfl, Lib.hid (by simp [wrap64, rowH]), rfl⟩
      case round =>
        obtain ⟨c, r, hc, rfl, rfl, rfl, hr, rfl⟩ := hrel
        by_cases hlc : c < 15
        · have hq2 : decide ((0 : Int) ≤ 14 - (c : Int)) = true := by rw [decide_eq_true_eq]; omega
          have hcell := poly_int HT.out (j := (14 - d) * 15 + (14 - c)) (by omega)
          have HR := Lib.hid (show rowH T x (14 - d) (c + 1) = rowH T x (14 - d) c * x + T.getD ((14 - d) * 15 + (14 - c)) 0 from rfl)
          generalize T.getD ((14 - d) * 15 + (14 - c)) 0 = t at hcell HR
          go_wp2_with fail
          go_roundg (15 - (c + 1))
          case measure => omega
          case rel => exact ⟨c + 1, _, by omega, rfl, by go_num, rfl, Lib.hid (by rw [hr.out, wrap64_mul, wrap64_add, HR.out]), rfl⟩
        · have hc15 : c = 15 := by omega
          subst hc15
          go_wp2_with fail
          go_roundg (15 - (d + 1))
          case measure => omega
          case rel => exact ⟨d + 1, _, by omega, rfl, by go_num, rfl, Lib.hid (by rw [ho.out, hr.out, wrap64_mul, wrap64_add, wrap64_add_r, atH]), rfl⟩
    · have hd15 : d = 15 := by omega
      subst hd15
      go_wp2_with fail
      go_ret
      exact ⟨by obtain rfl := ho.out; rfl, rfl⟩
end Go.Proofs.Ytmmpdfcnenljhaa
