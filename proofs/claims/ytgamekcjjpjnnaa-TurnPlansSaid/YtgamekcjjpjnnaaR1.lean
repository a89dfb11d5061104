/- The reference's turned and together, walked. Their conditions are their premises. -/
import Derived.Test.YtgamekcjjpjnnaaA12
import Derived.Test.YtgamekcjjpjnnaaM13
set_option linter.unusedVariables false
namespace Go.Proofs.Ytgamekcjjpjnnaa
open Go.RowKit

theorem rt_val {T s d : Nat} (ht : T ≤ 24) (hd : d < T) (hs : s < 2 ^ T) : bits .and .i64 (bits .or .i64 ((s : Int) * 2 ^ d) ((s : Int) * 2 ^ d / 2 ^ T)) ((2 : Int) ^ T - 1) = ((trn T s d : Nat) : Int) := by
  have hp := pow_small ht
  have h0 : 0 < 2 ^ T := Nat.two_pow_pos T
  have hpd := pow_small (t := d) (by omega)
  have hm : s * 2 ^ d < 2 ^ 62 := by
    have h1 : s * 2 ^ d < 2 ^ T * 2 ^ d := Nat.mul_lt_mul_of_pos_right hs (Nat.two_pow_pos d)
    rw [← Nat.pow_add] at h1
    exact Nat.lt_of_lt_of_le h1 (Nat.pow_le_pow_right (by omega) (by omega))
  have e1 : (s : Int) * 2 ^ d = ((s * 2 ^ d : Nat) : Int) := by simp
  have e2 : ((s * 2 ^ d : Nat) : Int) / 2 ^ T = ((s * 2 ^ d / 2 ^ T : Nat) : Int) := by simp
  have e3 : (2 : Int) ^ T - 1 = ((2 ^ T - 1 : Nat) : Int) := by rw [Int.natCast_sub (by omega)]; simp
  have b2 : s * 2 ^ d / 2 ^ T < 2 ^ 62 := Nat.lt_of_le_of_lt (Nat.div_le_self _ _) hm
  rw [e1, e2, e3, i64_or_nat _ _ (by omega) (by omega), i64_and_nat _ _ (by have := Nat.or_lt_two_pow hm b2; omega) (by omega), rt_trn ht hd hs]

theorem rt_wraps {T s d : Nat} (ht : T ≤ 24) (hd : d < T) (hs : s < 2 ^ T) : wrap64 ((s : Int) * 2 ^ d) = (s : Int) * 2 ^ d ∧ wrap64 ((2 : Int) ^ T) = (2 : Int) ^ T ∧ wrap64 ((2 : Int) ^ T - 1) = (2 : Int) ^ T - 1 := by
  have hp := pow_small ht
  have h0 : 0 < 2 ^ T := Nat.two_pow_pos T
  have hm : s * 2 ^ d < 2 ^ 62 := by
    have h1 : s * 2 ^ d < 2 ^ T * 2 ^ d := Nat.mul_lt_mul_of_pos_right hs (Nat.two_pow_pos d)
    rw [← Nat.pow_add] at h1
    exact Nat.lt_of_lt_of_le h1 (Nat.pow_le_pow_right (by omega) (by omega))
  have e1 : (s : Int) * 2 ^ d = ((s * 2 ^ d : Nat) : Int) := by simp
  have e2 : (2 : Int) ^ T = ((2 ^ T : Nat) : Int) := by simp
  rw [e1, e2]
  exact ⟨wrap64_nat _ (by omega), wrap64_nat _ (by omega), by unfold wrap64; omega⟩

set_option maxRecDepth 100000 in
set_option maxHeartbeats 1000000 in
theorem rturned_any (T s d : Nat) (w : World) (ht : T ≤ 24) (hd : d < T) (hs : s < 2 ^ T) :
    Calls Try.prog 80 #[.int .i64 T, .int .i64 s, .int .i64 d] w fun e w' => e = .returned (.int .i64 (trn T s d : Nat)) ∧ ∃ x, w' = w.grow x := by
  obtain ⟨h1, h2, h3⟩ := rt_wraps ht hd hs
  have hv := rt_val ht hd hs
  go_enter Try.func80, Try.ntmps80
  go_wp2
  go_quiet (fail)
  go_wp2
  go_ret
  exact ⟨rfl, w.grow_drewN nq⟩

theorem bit_mod (a c : Nat) : ((a : Int) / 2 ^ c).tmod 2 = if a.testBit c = true then 1 else 0 := by
  have e : (a : Int) / 2 ^ c = ((a / 2 ^ c : Nat) : Int) := by simp
  rw [e]
  have h := Nat.testBit_eq_decide_div_mod_eq (x := a) (i := c)
  generalize a / 2 ^ c = y at h ⊢
  rw [Int.tmod_eq_emod_of_nonneg (Int.natCast_nonneg y), h]
  by_cases h1 : y % 2 = 1
  · simp [h1]; omega
  · simp [h1]; omega
theorem bit_one {a c : Nat} {b : Bool} (h : a.testBit c = b) : (((a : Int) / 2 ^ c).tmod 2 == 1) = b := by
  rw [bit_mod, h]; cases b <;> rfl
theorem bit_zero {a c : Nat} {b : Bool} (h : a.testBit c = b) : (((a : Int) / 2 ^ c).tmod 2 == 0) = !b := by
  rw [bit_mod, h]; cases b <;> rfl

set_option maxRecDepth 100000 in
set_option maxHeartbeats 1000000 in
theorem together_any (T a b : Nat) (w : World) (ht : T ≤ 24) (ha : a < 2 ^ T) (hb : b < 2 ^ T) :
    Calls Try.prog 73 #[.int .i64 T, .int .i64 a, .int .i64 b] w fun e w' => (∃ bb, JB T a b T bb ∧ e = .returned (.int .i64 (bb : Nat))) ∧ ∃ x, w' = w.grow x := by
  have hp := pow_small ht
  go_enter Try.func73, Try.ntmps73
  go_wp2
  go_loopg [7, 8] T (fun g s iv wr => ∃ c bb, c ≤ T ∧ g = T - c ∧ iv = .int .i64 (c : Nat) ∧ s = .int .i64 (bb : Nat) ∧ JB T a b c bb ∧ ∃ x, wr = w.grow x)
  case atStart => exact ⟨0, 0, by omega, by omega, rfl, rfl, .zero, w.grow_refl⟩
  case round =>
    obtain ⟨c, bb, hc, rfl, rfl, rfl, hj, x, rfl⟩ := hrel
    have HJ := Lib.hid hj; have HA := Lib.hid ha
    have hbb := hj.1
    clear hj ha
    by_cases hlt : c < T
    · by_cases hbit : a.testBit c = true
      · have HB := Lib.hid hbit
        have d1 := bit_one hbit
        have hor := i64_or_nat bb (trn T b c) (by omega) (by have := trn_lt (t := T) (s := b) (k := c) ht; omega)
        clear hbit
        go_wp2_with fail
        refine (rturned_any T b c _ ht hlt hb).grow_of.mono ?_
        rintro e w' ⟨rfl, y, rfl⟩
        go_wp2_with fail
        go_roundg (T - (c + 1))
        case measure => omega
        case rel => exact ⟨c + 1, _, by omega, rfl, by go_num, rfl, HJ.out.take (by omega) ht hb HB.out hlt, _, rfl⟩
      · have HB := Lib.hid (show a.testBit c = false by simpa using hbit)
        have d1 := bit_one HB.out
        clear hbit
        go_wp2_with fail
        go_roundg (T - (c + 1))
        case measure => omega
        case rel => exact ⟨c + 1, _, by omega, rfl, by go_num, rfl, HJ.out.skip HB.out, _, rfl⟩
    · obtain rfl : c = T := by omega
      go_wp2_with fail
      go_ret
      exact ⟨⟨bb, HJ.out, rfl⟩, x, rfl⟩
theorem JB.exists (T a b c : Nat) (hT0 : 0 < T) (hT : T ≤ 24) (hb : b < 2 ^ T) (hc : c ≤ T) : ∃ bb, JB T a b c bb := by
  induction c with
  | zero => exact ⟨0, .zero⟩
  | succ c ih =>
    obtain ⟨bb, h⟩ := ih (by omega)
    by_cases hbit : a.testBit c = true
    · exact ⟨_, h.take hT0 hT hb hbit (by omega)⟩
    · exact ⟨_, h.skip (by simpa using hbit)⟩

theorem together_val (T a b bb : Nat) (w : World) (ht : T ≤ 24) (ha : a < 2 ^ T) (hb : b < 2 ^ T) (hj : JB T a b T bb) :
    Calls Try.prog 73 #[.int .i64 T, .int .i64 a, .int .i64 b] w fun e w' => e = .returned (.int .i64 (bb : Nat)) ∧ ∃ x, w' = w.grow x := by
  refine (together_any T a b w ht ha hb).mono ?_
  rintro e w' ⟨⟨b2, h2, rfl⟩, hx⟩
  have : b2 = bb := set_eq h2.1 hj.1 fun g hg => by rw [Bool.eq_iff_iff, h2.2 g hg, hj.2 g hg]
  subst this
  exact ⟨rfl, hx⟩
end Go.Proofs.Ytgamekcjjpjnnaa
