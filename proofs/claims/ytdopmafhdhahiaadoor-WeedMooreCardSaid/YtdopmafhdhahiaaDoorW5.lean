/- The sets with one plot more: next. Its conditions are its premises. -/
import Derived.Test.YtdopmafhdhahiaaDoorW4
set_option linter.unusedVariables false
namespace Go.Proofs.YtdopmafhdhahiaaDoor
open Go.RowKit

/-- One round of next. -/
def nextR (u e x o t : Nat) : Nat := if e / 2 ^ (t / 2) % 2 = 1 ∧ bit u t = x then o ||| 2 ^ (t % 4) else o
def nextF (u e x k : Nat) : Nat := (List.range k).foldl (nextR u e x) 0
def nextV (u e x : Nat) : Nat := nextF u e x 8
theorem nextF_succ (u e x k : Nat) : nextF u e x (k + 1) = nextR u e x (nextF u e x k) k := by
  unfold nextF
  rw [List.range_succ, List.foldl_append]
  rfl
theorem nextF_lt (u e x k : Nat) : nextF u e x k < 16 := by
  induction k with
  | zero => show 0 < 16; omega
  | succ k ih =>
    rw [nextF_succ]
    unfold nextR
    split
    · refine Nat.or_lt_two_pow (n := 4) ih (Nat.pow_lt_pow_right (by omega) (Nat.mod_lt _ (by omega)))
    · exact ih

theorem has_bit : ∀ e : Nat, e < 16 → ∀ t : Nat, t < 8 → bits .and .i64 (e : Int) (wrap64 ((2 : Int) ^ (t / 2))) = if e / 2 ^ (t / 2) % 2 = 1 then ((2 ^ (t / 2) : Nat) : Int) else 0 := by decide +kernel
theorem low_bits : ∀ t : Nat, t < 8 → bits .and .i64 (t : Int) 3 = ((t % 4 : Nat) : Int) := by decide +kernel
theorem set_bit : ∀ o : Nat, o < 16 → ∀ t : Nat, t < 8 → bits .or .i64 (o : Int) (wrap64 ((2 : Int) ^ (t % 4))) = ((o ||| 2 ^ (t % 4) : Nat) : Int) := by decide +kernel
theorem pow_ne (t : Nat) : (((2 ^ (t / 2) : Nat) : Int) != 0) = true := by
  have := Nat.two_pow_pos (t / 2)
  rw [bne_iff_ne]
  omega

set_option maxRecDepth 100000 in
set_option maxHeartbeats 400000 in
theorem next_any (u e x : Nat) (hu : u < 256) (he : e < 16) (hx : x < 2) (w : World) : Calls Tryd.prog 28 #[.int .i64 u, .int .i64 e, .int .i64 x] w fun en w' => en = .returned (.int .i64 (nextV u e x)) ∧ w' = w := by
  go_enter Tryd.func28, Tryd.ntmps28
  go_wp2_with fail
  go_loopg [9, 7] 8 (fun gm tv ov wr => ∃ t : Nat, t ≤ 8 ∧ gm = 8 - t ∧ tv = .int .i64 t ∧ ov = .int .i64 (nextF u e x t) ∧ wr = w)
  case atStart => exact ⟨0, by omega, by omega, rfl, rfl, rfl⟩
  case round =>
    obtain ⟨t, ht, rfl, rfl, rfl, rfl⟩ := hrel
    by_cases hlt : t < 8
    · have dt : decide ((t : Int) < 8) = true := by simp; omega
      have hb := has_bit e he t hlt
      have HS := Lib.hid (nextF_succ u e x t)
      have HO := Lib.hid (set_bit (nextF u e x t) (nextF_lt u e x t) t hlt)
      have hl := low_bits t hlt
      have hl2 : t % 4 < 4 := Nat.mod_lt _ (by omega)
      by_cases h1 : e / 2 ^ (t / 2) % 2 = 1
      · rw [if_pos h1] at hb
        have hn := pow_ne t
        by_cases h2 : bit u t = x
        · have d2 : ((bit u t : Int) == (x : Int)) = true := by rw [h2]; simp
          have HR : Hid (nextF u e x (t + 1) = nextF u e x t ||| 2 ^ (t % 4)) := Lib.hid (by rw [HS.out]; unfold nextR; rw [if_pos ⟨h1, h2⟩])
          clear h1 h2
          obtain ⟨p, hp⟩ : ∃ p, 2 ^ (t / 2) = p := ⟨_, rfl⟩
          obtain ⟨q, hq⟩ : ∃ q, t % 4 = q := ⟨_, rfl⟩
          obtain ⟨o, ho⟩ : ∃ o, nextF u e x t = o := ⟨_, rfl⟩
          rw [hp] at hb hn
          rw [hq] at hl hl2 HO HR
          rw [ho] at HO HR ⊢
          clear hp hq ho
          have hor := HO.out
          go_wp2_with fail
          refine (of_any u t hu hlt _).mono ?_
          rintro e W ⟨rfl, rfl⟩
          go_wp2_with fail
          go_roundg (8 - (t + 1))
          case measure => omega
          case rel => exact ⟨t + 1, by omega, rfl, by go_num, by rw [HR.out], rfl⟩
        · have d2 : ((bit u t : Int) == (x : Int)) = false := by simp; omega
          have HR : Hid (nextF u e x (t + 1) = nextF u e x t) := Lib.hid (by rw [HS.out]; unfold nextR; rw [if_neg (fun h => h2 h.2)])
          clear h1 h2
          obtain ⟨p, hp⟩ : ∃ p, 2 ^ (t / 2) = p := ⟨_, rfl⟩
          rw [hp] at hb hn
          clear hp
          go_wp2_with fail
          refine (of_any u t hu hlt _).mono ?_
          rintro e W ⟨rfl, rfl⟩
          go_wp2_with fail
          go_roundg (8 - (t + 1))
          case measure => omega
          case rel => exact ⟨t + 1, by omega, rfl, by go_num, by rw [HR.out], rfl⟩
      · rw [if_neg h1] at hb
        have HR : Hid (nextF u e x (t + 1) = nextF u e x t) := Lib.hid (by rw [HS.out]; unfold nextR; rw [if_neg (fun h => h1 h.1)])
        clear h1
        go_wp2_with fail
        go_roundg (8 - (t + 1))
        case measure => omega
        case rel => exact ⟨t + 1, by omega, rfl, by go_num, by rw [HR.out], rfl⟩
    · obtain rfl : t = 8 := by omega
      go_wp2_with fail
      go_ret
      exact ⟨rfl, rfl⟩
end Go.Proofs.YtdopmafhdhahiaaDoor
