/- turn.turned: the set that it returns. Its conditions are its premises. -/
import Derived.Test.YtgamekcjjpjnnaaA3
import Derived.Test.YtgamekcjjpjnnaaM1
import Derived.Laws.BitsAllLaws
set_option linter.unusedVariables false
namespace Go.Proofs.Ytgamekcjjpjnnaa
open Go.RowKit

theorem trn_val {T s : Nat} {d : Int} (ht0 : 1 ≤ T) (ht : T ≤ 24) (hs : s < 33554432) :
    bits .and .u32 (bits .or .u32 ((s : Int) * 2 ^ (d % (T : Int)).toNat % 4294967296) ((s : Int) / 2 ^ ((T : Int) - d % (T : Int)).toNat)) ((2 ^ T - 1) % 4294967296) = ((trn T s (d % (T : Int)).toNat : Nat) : Int) := by
  have h1 := Int.emod_nonneg d (show (T : Int) ≠ 0 by omega)
  have h2 := Int.emod_lt_of_pos d (show (0 : Int) < T by omega)
  obtain ⟨k, hk⟩ := Int.eq_ofNat_of_zero_le h1
  rw [hk] at h2 ⊢
  have hp := pow_small ht
  have h0 : 0 < 2 ^ T := Nat.two_pow_pos T
  rw [show ((T : Int) - (k : Int)).toNat = T - k by omega, Int.toNat_natCast]
  have e1 : (s : Int) * 2 ^ k % 4294967296 = ((s * 2 ^ k % 4294967296 : Nat) : Int) := by simp
  have e2 : (s : Int) / 2 ^ (T - k) = ((s / 2 ^ (T - k) : Nat) : Int) := by simp
  have e3 : ((2 : Int) ^ T - 1) % 4294967296 = (((2 ^ T - 1) % 4294967296 : Nat) : Int) := by
    rw [Int.natCast_emod, Int.natCast_sub (by omega)]; simp
  have b1 : s * 2 ^ k % 4294967296 < 4294967296 := Nat.mod_lt _ (by omega)
  have b2 : s / 2 ^ (T - k) < 4294967296 := Nat.lt_of_le_of_lt (Nat.div_le_self _ _) (by omega)
  rw [e1, e2, e3, u32_or_nat _ _ b1 b2, u32_and_nat _ _ (Nat.or_lt_two_pow (n := 32) b1 b2) (Nat.mod_lt _ (by omega))]
  rfl

theorem turned_any (T s : Nat) (d : Int) (b : Nat) (w : World) (ht : 1 ≤ T) (ht2 : T ≤ 24) (h0 : -100000 ≤ d) (h1 : d ≤ 100000) (hs : s < 33554432)
   (hc : w.cell? ⟨b, 0, none⟩ = some (.int .i64 T)) :
    Calls Try.prog 70 #[.pointer (some ⟨b, 0, none⟩), .int .u32 s, .int .i64 d] w fun e w' => e = .returned (.int .u32 (trn T s (d % (T : Int)).toNat : Nat)) ∧ ∃ m, w' = w.drewN m := by
  have h4 := Int.emod_nonneg d (show (T : Int) ≠ 0 by omega)
  have h5 := Int.emod_lt_of_pos d (show 0 < (T : Int) by omega)
  go_enter Try.func70, Try.ntmps70
  go_wp2_with fail
  refine (modulo_any d T b 0 w (by omega) (by omega) (by omega) (by omega) hc).mono ?_
  rintro e w' ⟨rfl, m, rfl⟩
  go_wp2
  go_quiet (fail)
  go_wp2
  go_ret
  exact ⟨ret_int (trn_val ht ht2 hs), m + nq, World.drewN_drewN _ _ _⟩
end Go.Proofs.Ytgamekcjjpjnnaa
