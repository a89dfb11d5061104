/- Mirror, of the program and of its reference. Their conditions are their premises. -/
import Derived.Test.YtdopmafhdhahiaaDoorW2
set_option linter.unusedVariables false
namespace Go.Proofs.YtdopmafhdhahiaaDoor
open Go.RowKit

/-- The table of functions as start-up lays it. -/
def Kinds (w : World) : Prop := w.cell? ⟨0, 0, none⟩ = some (.func (.func 76) #[] #[]) ∧ w.cell? ⟨0, 1, none⟩ = some (.func (.func 77) #[] #[])

theorem Kinds.chg {w w' : World} (h : Kinds w) (hc : Chg (fun _ => False) w w') : Kinds w' := ⟨hc.cell_some h.1 (fun x => x), hc.cell_some h.2 (fun x => x)⟩

/-- What Mirror answers. -/
def mirV (u : Int) : Value := if 0 ≤ u ∧ u ≤ 255 then .tuple #[.int .i64 (mirF u.toNat 8), .int .i64 (oppF u.toNat 8), .int .i64 0] else .tuple #[.int .i64 0, .int .i64 0, .int .i64 2]

theorem of_rule {u : Int} (h : 0 ≤ u ∧ u ≤ 255) : ∃ n : Nat, u = n ∧ n < 256 := ⟨u.toNat, by omega, by omega⟩

set_option maxRecDepth 100000 in
set_option maxHeartbeats 1000000 in
theorem mirror_any (u : Int) (w : World) (hk : Kinds w) : Calls Tryd.prog 11 #[.int .i64 u] w fun e w' => e = .returned (mirV u) ∧ Chg (fun _ => False) w w' := by
  obtain ⟨k0, k1⟩ := hk
  go_enter Tryd.func11, Tryd.ntmps11
  go_wp2_with fail
  refine (known_any u _).mono ?_
  rintro e W ⟨rfl, rfl⟩
  by_cases hu : 0 ≤ u ∧ u ≤ 255
  · have hd : decide (0 ≤ u ∧ u ≤ 255) = true := by simpa using hu
    have HV := Lib.hid (show mirV u = .tuple #[.int .i64 (mirF u.toNat 8), .int .i64 (oppF u.toNat 8), .int .i64 0] by unfold mirV; rw [if_pos hu])
    obtain ⟨n, rfl, hn⟩ := of_rule hu
    clear hu
    simp only [hd]
    go_wp2_with fail
    go_quiet (first | (go_at_call 76; exact Calls.quiet_of_same (mirrored_any n hn _)) | (go_at_call 77; exact Calls.quiet_of_same (opposite_any n hn _)))
    go_wp2_with fail
    go_ret3
    rw [HV.out]
    exact ⟨rfl, (Chg.refl _ _).drewN _⟩
  · have hd : decide (0 ≤ u ∧ u ≤ 255) = false := by simpa using hu
    have HV := Lib.hid (show mirV u = .tuple #[.int .i64 0, .int .i64 0, .int .i64 2] by unfold mirV; rw [if_neg hu])
    clear hu
    simp only [hd]
    go_wp2_with fail
    go_ret3
    rw [HV.out]
    exact ⟨rfl, Chg.refl _ _⟩

def rmA (u k : Nat) : Nat := (List.range k).foldl (fun o t => o + bit u (4 * (t % 2) + 2 * (t / 2 % 2) + t / 4) * 2 ^ t) 0
def rmB (u k : Nat) : Nat := (List.range k).foldl (fun o t => o + (1 - bit u (4 * (1 - t / 4) + 2 * (1 - t / 2 % 2) + (1 - t % 2))) * 2 ^ t) 0
theorem rmA_eq : ∀ u : Nat, u < 256 → rmA u 8 = mirF u 8 := by decide +kernel
theorem rmB_eq : ∀ u : Nat, u < 256 → rmB u 8 = oppF u 8 := by decide +kernel
theorem sum_lt (f : Nat → Nat) (hf : ∀ t, f t < 2) (k : Nat) : (List.range k).foldl (fun o t => o + f t * 2 ^ t) 0 < 2 ^ k := by
  induction k with
  | zero => simp
  | succ k ih =>
    rw [List.range_succ, List.foldl_append]
    simp only [List.foldl_cons, List.foldl_nil]
    have h := hf k
    rw [Nat.pow_succ]
    have h2 : f k * 2 ^ k ≤ 1 * 2 ^ k := Nat.mul_le_mul_right _ (by omega)
    omega
theorem rmA_lt (u : Nat) {k : Nat} (hk : k ≤ 8) : rmA u k < 256 := Nat.lt_of_lt_of_le (sum_lt (fun t => bit u (4 * (t % 2) + 2 * (t / 2 % 2) + t / 4)) (fun t => bit_lt _ _) k) (Nat.pow_le_pow_right (by omega) hk : 2 ^ k ≤ 2 ^ 8)
theorem rmB_lt (u : Nat) {k : Nat} (hk : k ≤ 8) : rmB u k < 256 := Nat.lt_of_lt_of_le (sum_lt (fun t => 1 - bit u (4 * (1 - t / 4) + 2 * (1 - t / 2 % 2) + (1 - t % 2))) (fun t => by omega) k) (Nat.pow_le_pow_right (by omega) hk : 2 ^ k ≤ 2 ^ 8)
theorem rmA_succ (u l c r : Nat) (hc : c < 2) (hr : r < 2) : rmA u (4 * l + 2 * c + r + 1) = rmA u (4 * l + 2 * c + r) + bit u (4 * r + 2 * c + l) * 2 ^ (4 * l + 2 * c + r) := by
  unfold rmA
  rw [List.range_succ, List.foldl_append]
  simp only [List.foldl_cons, List.foldl_nil]
  rw [show (4 * l + 2 * c + r) % 2 = r by omega, show (4 * l + 2 * c + r) / 2 % 2 = c by omega, show (4 * l + 2 * c + r) / 4 = l by omega]
theorem rmB_succ (u l c r : Nat) (hc : c < 2) (hr : r < 2) : rmB u (4 * l + 2 * c + r + 1) = rmB u (4 * l + 2 * c + r) + (1 - bit u (4 * (1 - l) + 2 * (1 - c) + (1 - r))) * 2 ^ (4 * l + 2 * c + r) := by
  unfold rmB
  rw [List.range_succ, List.foldl_append]
  simp only [List.foldl_cons, List.foldl_nil]
  rw [show (4 * l + 2 * c + r) % 2 = r by omega, show (4 * l + 2 * c + r) / 2 % 2 = c by omega, show (4 * l + 2 * c + r) / 4 = l by omega]

theorem one_sub {x : Nat} (h : x < 2) : (1 : Int) - (x : Int) = ((1 - x : Nat) : Int) := by omega

theorem small_shift {b t : Nat} (hb : b < 2) (ht : t < 8) : b * 2 ^ t ≤ 128 := by
  have h : b * 2 ^ t ≤ 1 * 2 ^ 7 := Nat.mul_le_mul (by omega) (Nat.pow_le_pow_right (by omega) (by omega))
  simpa using h
theorem wrap_add (a b : Nat) (ha : a < 256) (hb : b ≤ 128) : wrap64 ((a : Int) + (b : Int)) = ((a + b : Nat) : Int) := by
  rw [← Int.natCast_add]
  exact wrap64_nat _ (by omega)

theorem rmA_round (n l c r : Nat) (hl : l < 2) (hc : c < 2) (hr : r < 2) : ∃ X : Nat, wrap64 ((bit n (4 * r + 2 * c + l) : Int) * 2 ^ (4 * l + 2 * c + r)) = (X : Int) ∧
    wrap64 ((rmA n (4 * l + 2 * c + r) : Int) + (X : Int)) = (rmA n (4 * l + 2 * c + (r + 1)) : Int) := by
  have hb := bit_lt n (4 * r + 2 * c + l)
  refine ⟨_, wrap_shift _ _ hb (by omega), ?_⟩
  rw [wrap_add _ _ (rmA_lt n (by omega)) (small_shift hb (by omega)), show 4 * l + 2 * c + (r + 1) = 4 * l + 2 * c + r + 1 from rfl, rmA_succ n l c r hc hr]
theorem rmB_round (n l c r : Nat) (hl : l < 2) (hc : c < 2) (hr : r < 2) : ∃ X : Nat, wrap64 (((1 - bit n (4 * (1 - l) + 2 * (1 - c) + (1 - r)) : Nat) : Int) * 2 ^ (4 * l + 2 * c + r)) = (X : Int) ∧
    wrap64 ((rmB n (4 * l + 2 * c + r) : Int) + (X : Int)) = (rmB n (4 * l + 2 * c + (r + 1)) : Int) := by
  have hb : 1 - bit n (4 * (1 - l) + 2 * (1 - c) + (1 - r)) < 2 := by omega
  refine ⟨_, wrap_shift _ _ hb (by omega), ?_⟩
  rw [wrap_add _ _ (rmB_lt n (by omega)) (small_shift hb (by omega)), show 4 * l + 2 * c + (r + 1) = 4 * l + 2 * c + r + 1 from rfl, rmB_succ n l c r hc hr]

set_option maxRecDepth 100000 in
set_option maxHeartbeats 400000 in
theorem rmirror_any (u : Int) (w : World) : Calls Tryd.prog 12 #[.int .i64 u] w fun e w' => e = .returned (mirV u) ∧ w' = w := by
  go_enter Tryd.func12, Tryd.ntmps12
  go_wp2_with fail
  refine (rule_any u _).mono ?_
  rintro e W ⟨rfl, rfl⟩
  by_cases hu : 0 ≤ u ∧ u ≤ 255
  · have hd : decide (0 ≤ u ∧ u ≤ 255) = true := by simpa using hu
    have HV := Lib.hid (show mirV u = .tuple #[.int .i64 (mirF u.toNat 8), .int .i64 (oppF u.toNat 8), .int .i64 0] by unfold mirV; rw [if_pos hu])
    obtain ⟨n, rfl, hn⟩ := of_rule hu
    clear hu
    simp only [hd]
    go_wp2_with fail
    go_loopg [7, 5, 6] 2 (fun gm lv av bv wr => ∃ l : Nat, l ≤ 2 ∧ gm = 2 - l ∧ lv = .int .i64 l ∧ av = .int .i64 (rmA n (4 * l)) ∧ bv = .int .i64 (rmB n (4 * l)) ∧ wr = W)
    case atStart => exact ⟨0, by omega, by omega, rfl, rfl, rfl, rfl⟩
    case round =>
      obtain ⟨l, hl, rfl, rfl, rfl, rfl, rfl⟩ := hrel
      by_cases hlt : l < 2
      · have dl : decide ((l : Int) < 2) = true := by simp; omega
        go_wp2_with fail
        go_loopg [8, 5, 6] 2 (fun gm cv av bv wr2 => ∃ c : Nat, c ≤ 2 ∧ gm = 2 - c ∧ cv = .int .i64 c ∧ av = .int .i64 (rmA n (4 * l + 2 * c)) ∧ bv = .int .i64 (rmB n (4 * l + 2 * c)) ∧ wr2 = wr)
        case atStart => exact ⟨0, by omega, by omega, rfl, rfl, rfl, rfl⟩
        case round =>
          obtain ⟨c, hc, rfl, rfl, rfl, rfl, rfl⟩ := hrel
          by_cases hlc : c < 2
          · have dc : decide ((c : Int) < 2) = true := by simp; omega
            go_wp2_with fail
            go_loopg [9, 5, 6] 2 (fun gm rv av bv wr3 => ∃ r : Nat, r ≤ 2 ∧ gm = 2 - r ∧ rv = .int .i64 r ∧ av = .int .i64 (rmA n (4 * l + 2 * c + r)) ∧ bv = .int .i64 (rmB n (4 * l + 2 * c + r)) ∧ wr3 = wr)
            case atStart => exact ⟨0, by omega, by omega, rfl, rfl, rfl, rfl⟩
            case round =>
              obtain ⟨r, hr, rfl, rfl, rfl, rfl, rfl⟩ := hrel
              by_cases hlr : r < 2
              · have dr : decide ((r : Int) < 2) = true := by simp; omega
                obtain ⟨X, hw1, hw3⟩ := rmA_round n l c r hlt hlc hlr
                obtain ⟨Y, hw2, hw4⟩ := rmB_round n l c r hlt hlc hlr
                have e1 := one_sub hlt
                have e2 := one_sub hlc
                have e3 := one_sub hlr
                have e4 := one_sub (bit_lt n (4 * (1 - l) + 2 * (1 - c) + (1 - r)))
                obtain ⟨A, hAA⟩ : ∃ A, rmA n (4 * l + 2 * c + r) = A := ⟨_, rfl⟩
                obtain ⟨B, hBB⟩ : ∃ B, rmB n (4 * l + 2 * c + r) = B := ⟨_, rfl⟩
                obtain ⟨A', hA'⟩ : ∃ A', rmA n (4 * l + 2 * c + (r + 1)) = A' := ⟨_, rfl⟩
                obtain ⟨B', hB'⟩ : ∃ B', rmB n (4 * l + 2 * c + (r + 1)) = B' := ⟨_, rfl⟩
                rw [hAA, hA'] at hw3
                rw [hBB, hB'] at hw4
                rw [hAA, hBB]
                have HA' := Lib.hid hA'; have HB' := Lib.hid hB'
                clear hAA hBB hA' hB'
                go_wp2_with fail
                refine (becomes_any n r c l hn hlr hlc hlt _).mono ?_
                rintro e W ⟨rfl, rfl⟩
                go_wp2_with fail
                refine (becomes_any n (1 - l) (1 - c) (1 - r) hn (by omega) (by omega) (by omega) _).mono ?_
                rintro e W ⟨rfl, rfl⟩
                go_wp2_with fail
                go_roundg (2 - (r + 1))
                case measure => omega
                case rel => exact ⟨r + 1, by omega, rfl, by go_num, by rw [HA'.out], by rw [HB'.out]; exact congrArg (Value.int .i64) hw4, rfl⟩
              · obtain rfl : r = 2 := by omega
                go_wp2_with fail
                go_roundg (2 - (c + 1))
                case measure => omega
                case rel => exact ⟨c + 1, by omega, rfl, by go_num, by rw [show 4 * l + 2 * (c + 1) = 4 * l + 2 * c + 2 by omega], by rw [show 4 * l + 2 * (c + 1) = 4 * l + 2 * c + 2 by omega], rfl⟩
          · obtain rfl : c = 2 := by omega
            go_wp2_with fail
            go_roundg (2 - (l + 1))
            case measure => omega
            case rel => exact ⟨l + 1, by omega, rfl, by go_num, by rw [show 4 * (l + 1) = 4 * l + 2 * 2 by omega], by rw [show 4 * (l + 1) = 4 * l + 2 * 2 by omega], rfl⟩
      · obtain rfl : l = 2 := by omega
        go_wp2_with fail
        go_ret3
        rw [HV.out]
        refine ⟨?_, rfl⟩
        have ha := rmA_eq n hn
        have hb := rmB_eq n hn
        simp only [Int.toNat_natCast]
        rw [← ha, ← hb]
        rfl
  · have hd : decide (0 ≤ u ∧ u ≤ 255) = false := by simpa using hu
    have HV := Lib.hid (show mirV u = .tuple #[.int .i64 0, .int .i64 0, .int .i64 2] by unfold mirV; rw [if_neg hu])
    clear hu
    simp only [hd]
    go_wp2_with fail
    go_ret3
    rw [HV.out]
    exact ⟨rfl, rfl⟩
end Go.Proofs.YtdopmafhdhahiaaDoor
