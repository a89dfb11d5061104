/- Greatest common divisors, the numbers of a set and its size, powers of the reference, walked. Their conditions are their premises. -/
import Derived.Test.YtmmpdfcnenljhaaF15
set_option linter.unusedVariables false
namespace Go.Proofs.Ytmmpdfcnenljhaa
open Go.RowKit

theorem grow_drew (w : World) (z : Ext) : ∃ q, (w.grow z).drew = w.grow q := World.grow_of_below ((World.grow_below w z).drewN 1)

set_option maxRecDepth 100000 in
set_option maxHeartbeats 1000000 in
theorem gcd_nat (A B : Nat) (w : World) (hA : A < 9223372036854775808) (hB : B < 9223372036854775808) :
    Calls Try.prog 34 #[.int .i64 (A : Int), .int .i64 (B : Int)] w fun e w' => e = .returned (.int .i64 (Nat.gcd A B : Nat)) ∧ ∃ z, w' = w.grow z := by
  go_enter Try.func34, Try.ntmps34
  go_wp2_with fail
  go_loopg [0, 1] B (fun gm av bv wr => ∃ x y : Nat, y = gm ∧ av = .int .i64 x ∧ bv = .int .i64 y ∧ x < 9223372036854775808 ∧ y < 9223372036854775808 ∧ Hid (Nat.gcd x y = Nat.gcd A B) ∧ ∃ z, wr = w.grow z)
  case atStart => exact ⟨A, B, rfl, rfl, rfl, hA, hB, Lib.hid rfl, w.grow_refl⟩
  case round =>
    obtain ⟨x, y, rfl, rfl, rfl, hx, hy, hg, z, rfl⟩ := hrel
    by_cases h0 : y = 0
    · subst h0
      go_wp2_with fail
      go_ret
      refine ⟨?_, z, rfl⟩
      rw [← hg.out, Nat.gcd_zero_right]
      rfl
    · have hq : ((y : Int) != 0) = true := by rw [bne_iff_ne]; omega
      have hlt := Nat.mod_lt x (Nat.pos_of_ne_zero h0)
      have hgn : Nat.gcd y (x % y) = Nat.gcd x y := by rw [Nat.gcd_comm y, ← Nat.gcd_rec, Nat.gcd_comm]
      have HGN := Lib.hid (hgn.trans hg.out)
      have hmod : ((x : Int).tmod (y : Int)) = ((x % y : Nat) : Int) := by rw [Int.tmod_eq_emod_of_nonneg (by omega)]; rfl
      have HMOD := Lib.hid hmod
      clear hgn hmod
      go_wp2_with fail
      go_region
      all_goals
        go_wp2_with fail
        go_roundg (x % y)
        case measure => omega
        case rel => exact ⟨y, x % y, rfl, rfl, by first | rfl | (rw [← HMOD.out]) | (rw [← HMOD.out]; go_num), hy, by omega, HGN, grow_drew w z⟩

set_option maxRecDepth 100000 in
set_option maxHeartbeats 1000000 in
theorem rgcd_nat (A B : Nat) (w : World) (hA : A < 9223372036854775808) (hB : B < 9223372036854775808) :
    Calls Try.prog 41 #[.int .i64 (A : Int), .int .i64 (B : Int)] w fun e w' => e = .returned (.int .i64 (Nat.gcd A B : Nat)) ∧ ∃ z, w' = w.grow z := by
  go_enter Try.func41, Try.ntmps41
  go_wp2_with fail
  go_loopg [0, 1] B (fun gm av bv wr => ∃ x y : Nat, y = gm ∧ av = .int .i64 x ∧ bv = .int .i64 y ∧ x < 9223372036854775808 ∧ y < 9223372036854775808 ∧ Hid (Nat.gcd x y = Nat.gcd A B) ∧ ∃ z, wr = w.grow z)
  case atStart => exact ⟨A, B, rfl, rfl, rfl, hA, hB, Lib.hid rfl, w.grow_refl⟩
  case round =>
    obtain ⟨x, y, rfl, rfl, rfl, hx, hy, hg, z, rfl⟩ := hrel
    by_cases h0 : y = 0
    · subst h0
      have hmx : (if (x : Int) < -(x : Int) then -(x : Int) else (x : Int)) = (x : Int) := by rw [if_neg (by omega)]
      go_wp2_with fail
      go_ret
      refine ⟨?_, z, rfl⟩
      rw [← hg.out, Nat.gcd_zero_right]
      rfl
    · have hq : ((y : Int) != 0) = true := by rw [bne_iff_ne]; omega
      have hlt := Nat.mod_lt x (Nat.pos_of_ne_zero h0)
      have hgn : Nat.gcd y (x % y) = Nat.gcd x y := by rw [Nat.gcd_comm y, ← Nat.gcd_rec, Nat.gcd_comm]
      have HGN := Lib.hid (hgn.trans hg.out)
      have hmod : ((x : Int).tmod (y : Int)) = ((x % y : Nat) : Int) := by rw [Int.tmod_eq_emod_of_nonneg (by omega)]; rfl
      have HMOD := Lib.hid hmod
      clear hgn hmod
      go_wp2_with fail
      go_region
      all_goals
        go_wp2_with fail
        go_roundg (x % y)
        case measure => omega
        case rel => exact ⟨y, x % y, rfl, rfl, by first | rfl | (rw [← HMOD.out]) | (rw [← HMOD.out]; go_num), hy, by omega, HGN, grow_drew w z⟩

set_option maxRecDepth 100000 in
set_option maxHeartbeats 1000000 in
theorem rpower_any (x : Int) (k : Nat) (w : World) (hk : k ≤ 1000) :
    Calls Try.prog 39 #[.int .i64 x, .int .i64 (k : Int)] w fun e w' => e = .returned (.int .i64 (wrap64 (x ^ k))) ∧ w' = w := by
  go_enter Try.func39, Try.ntmps39
  go_wp2_with fail
  go_loopg [6, 5] k (fun gm iv pv wr => ∃ (i : Nat) (p : Int), i ≤ k ∧ gm = k - i ∧ iv = .int .i64 i ∧ pv = .int .i64 p ∧ Hid (p = wrap64 (x ^ i)) ∧ wr = w)
  case atStart => exact ⟨0, 1, by omega, by omega, rfl, rfl, Lib.hid (by simp [wrap64]), rfl⟩
  case round =>
    obtain ⟨i, p, hi, rfl, rfl, rfl, hp, rfl⟩ := hrel
    by_cases hlt : i < k
    · go_wp2_with fail
      go_roundg (k - (i + 1))
      case measure => omega
      case rel => exact ⟨i + 1, _, by omega, rfl, by go_num, rfl, Lib.hid (by rw [hp.out, wrap64_mul, Int.pow_succ]), rfl⟩
    · have hki : i = k := by omega
      subst hki
      go_wp2_with fail
      go_ret
      exact ⟨by obtain rfl := hp.out; rfl, rfl⟩

/-- How many numbers below k a set has. -/
def sizeTo (S : Nat) : Nat → Nat
  | 0 => 0
  | k + 1 => sizeTo S k + if S.testBit k then 1 else 0
def sizeV (S : Nat) : Nat := sizeTo S 62
theorem sizeTo_le (S : Nat) : ∀ k, sizeTo S k ≤ k
  | 0 => Nat.le_refl _
  | k + 1 => by
    have := sizeTo_le S k
    rw [sizeTo]
    split <;> omega
theorem sizeTo_far (S k : Nat) (h : S < 2 ^ k) : ∀ d, sizeTo S (k + d) = sizeTo S k
  | 0 => rfl
  | d + 1 => by
    rw [show k + (d + 1) = (k + d) + 1 by omega, sizeTo, sizeTo_far S k h d, Nat.testBit_lt_two_pow (Nat.lt_of_lt_of_le h (Nat.pow_le_pow_right (by omega) (by omega)))]
    simp
theorem sizeV_of (S k : Nat) (h : S < 2 ^ k) (hk : k ≤ 62) : sizeV S = sizeTo S k := by
  unfold sizeV
  rw [show 62 = k + (62 - k) by omega]
  exact sizeTo_far S k h _
theorem sizeV_le {S k : Nat} (h : S < 2 ^ k) (hk : k ≤ 62) : sizeV S ≤ k := by rw [sizeV_of S k h hk]; exact sizeTo_le S k
theorem sizeTo_bit {S k : Nat} {b : Bool} (h : S.testBit k = b) : sizeTo S (k + 1) = sizeTo S k + if b then 1 else 0 := by rw [sizeTo, h]

theorem div_pow_cast (S k : Nat) : ((S / 2 ^ k : Nat) : Int) = (S : Int) / 2 ^ k := by simp
theorem div_step (S k : Nat) : S / 2 ^ k / 2 = S / 2 ^ (k + 1) := by rw [Nat.div_div_eq_div_mul, Nat.pow_succ]

set_option maxRecDepth 100000 in
set_option maxHeartbeats 1000000 in
theorem size_any (S m : Nat) (w : World) (hS : S < 2 ^ m) (hm : m ≤ 62) :
    Calls Try.prog 40 #[.int .i64 (S : Int)] w fun e w' => e = .returned (.int .i64 (sizeV S : Nat)) ∧ w' = w := by
  have HS := Lib.hid hS
  clear hS
  go_enter Try.func40, Try.ntmps40
  go_wp2_with fail
  go_loopg [0, 3] m (fun gm sv nv wr => ∃ k : Nat, k ≤ m ∧ gm = m - k ∧ sv = .int .i64 ((S / 2 ^ k : Nat) : Int) ∧ nv = .int .i64 (sizeTo S k : Nat) ∧ wr = w)
  case atStart => exact ⟨0, by omega, by omega, by simp, rfl, rfl⟩
  case round =>
    obtain ⟨k, hk, rfl, rfl, rfl, rfl⟩ := hrel
    have hle := sizeTo_le S k
    have hS62 : S / 2 ^ k < 2 ^ 62 := Nat.lt_of_le_of_lt (Nat.div_le_self _ _) (Nat.lt_of_lt_of_le HS.out (Nat.pow_le_pow_right (by omega) hm))
    by_cases h0 : S / 2 ^ k = 0
    · have hSk : S < 2 ^ k := by
        rcases Nat.div_eq_zero_iff.1 h0 with h | h
        · have := Nat.two_pow_pos k; omega
        · exact h
      have HV := Lib.hid (sizeV_of S k hSk (by omega))
      have hd : decide (0 < S / 2 ^ k) = false := by rw [h0]; rfl
      obtain ⟨D, hD⟩ : ∃ D, S / 2 ^ k = D := ⟨_, rfl⟩
      rw [hD] at hd ⊢
      clear h0 hSk hS62 hD
      go_wp2_with fail
      go_ret
      exact ⟨by rw [HV.out]; rfl, rfl⟩
    · have hkm : k < m := by
        by_cases h : k < m
        · exact h
        · exfalso; exact h0 (Nat.div_eq_of_lt (Nat.lt_of_lt_of_le HS.out (Nat.pow_le_pow_right (by omega) (by omega))))
      obtain ⟨bt, hbt⟩ : ∃ bt, S.testBit k = bt := ⟨_, rfl⟩
      have HNX := Lib.hid (sizeTo_bit hbt)
      have hdv := div_step S k
      have htm : ((S / 2 ^ k : Nat) : Int).tmod 2 = if bt then 1 else 0 := by rw [div_pow_cast, bit_mod, hbt]
      obtain ⟨D, hD⟩ : ∃ D, S / 2 ^ k = D := ⟨_, rfl⟩
      rw [hD] at hdv htm h0 hS62 ⊢
      have hd : decide (0 < D) = true := by rw [decide_eq_true_eq]; omega
      have HDV := Lib.hid hdv
      have hmod2 : (D : Int) % 2 = if bt then 1 else 0 := by rw [← htm, Int.tmod_eq_emod_of_nonneg (by omega)]
      have HM2 := Lib.hid hmod2; have HTM := Lib.hid htm
      have hD62 : D < 4611686018427387904 := hS62
      clear hdv hD hbt htm hmod2 h0 hS62
      go_wp2_with fail
      go_roundg (m - (k + 1))
      case measure => omega
      case rel =>
        refine ⟨k + 1, by omega, rfl, ?_, ?_, rfl⟩
        · rw [← HDV.out]; first | rfl | go_num | (rw [Int.tdiv_eq_ediv_of_nonneg (by omega)]; rfl)
        · rw [HNX.out]; have h1 := HM2.out; have h2 := HTM.out; cases bt <;> simp at h1 h2 ⊢ <;> omega

/-- The numbers below k of a set. -/
def memTo (S : Nat) : Nat → List Int
  | 0 => []
  | k + 1 => if S.testBit k then memTo S k ++ [(k : Int)] else memTo S k
theorem memTo_len (S : Nat) : ∀ k, (memTo S k).length = sizeTo S k
  | 0 => rfl
  | k + 1 => by
    rw [memTo, sizeTo]
    cases S.testBit k <;> simp [memTo_len S k]
theorem memTo_yes {S k : Nat} (h : S.testBit k = true) : memTo S (k + 1) = memTo S k ++ [(k : Int)] := by rw [memTo, if_pos h]
theorem memTo_no {S k : Nat} (h : S.testBit k = false) : memTo S (k + 1) = memTo S k := by rw [memTo, if_neg (by rw [h]; decide)]

set_option maxRecDepth 100000 in
set_option maxHeartbeats 1000000 in
theorem members_any (S m : Nat) (w : World) (hS : S < 2 ^ m) (hm : m ≤ 14) :
    Calls Try.prog 35 #[.int .i64 (S : Int)] w fun e w' => ∃ ao c, e = .returned (.slice ao (sizeV S) c) ∧ Chg (fun _ => False) w w' := by
  obtain ⟨i0, hi0, hz0, hz1, hz2⟩ := info_parts info3
  have HI0 := Lib.hid hi0; have HZ0 := Lib.hid hz0; have HZ1 := Lib.hid hz1; have HZ2 := Lib.hid hz2
  have HS := Lib.hid hS
  clear hS hi0 hz0 hz1 hz2
  go_enter Try.func35, Try.ntmps35
  go_wp2_with fail
  go_loopg [4, 3] m (fun gm iv v wr => ∃ k : Nat, k ≤ m ∧ gm = m - k ∧ iv = .int .i64 k ∧ wr.ownsRow w.heap.size 3 1 v (memTo S k).length ((memTo S k).map (Value.int .i64)) ∧ Chg (fun _ => False) w wr)
  case atStart => exact ⟨0, by omega, by omega, rfl, World.ownsRow_nil _ _ _ _, Chg.refl _ w⟩
  case round =>
    obtain ⟨k, hk, rfl, rfl, hown, hcg⟩ := hrel
    have HOWN := Lib.hid hown; have HCG := Lib.hid hcg
    have hsz : w.heap.size ≤ wr.heap.size := hcg.size
    have hle := sizeTo_le S k
    have hml := memTo_len S k
    clear hown hcg
    by_cases h0 : S / 2 ^ k = 0
    · have hSk : S < 2 ^ k := by
        rcases Nat.div_eq_zero_iff.1 h0 with h | h
        · have := Nat.two_pow_pos k; omega
        · exact h
      have HV := Lib.hid ((sizeV_of S k hSk (by omega)).trans hml.symm)
      have hd : decide ((0 : Int) < (S : Int) / 2 ^ k) = false := by rw [← div_pow_cast, h0]; rfl
      have hown := HOWN.out
      obtain ⟨ao, c, rfl⟩ := owns_shape hown
      clear h0 hSk hml hown
      go_wp2_with fail
      go_ret
      exact ⟨ao, c, by rw [HV.out]; rfl, HCG.out⟩
    · have hkm : k < m := by
        by_cases h : k < m
        · exact h
        · exfalso; exact h0 (Nat.div_eq_of_lt (Nat.lt_of_lt_of_le HS.out (Nat.pow_le_pow_right (by omega) (by omega))))
      have hd : decide ((0 : Int) < (S : Int) / 2 ^ k) = true := by rw [decide_eq_true_eq, ← div_pow_cast]; exact Int.natCast_pos.2 (Nat.pos_of_ne_zero h0)
      obtain ⟨bt, hbt⟩ : ∃ bt, S.testBit k = bt := ⟨_, rfl⟩
      have hS62 : S < 2 ^ 14 := Nat.lt_of_lt_of_le HS.out (Nat.pow_le_pow_right (by omega) hm)
      have hand := i64_and_nat S (2 ^ k) (by omega) (by have : 2 ^ k ≤ 2 ^ 14 := Nat.pow_le_pow_right (by omega) (by omega); omega)
      have dbit := and_zero hbt
      rw [← hand, show ((2 ^ k : Nat) : Int) = (2 : Int) ^ k by simp] at dbit
      have hwk := i64_pow (c := k) (by omega)
      rw [show ((2 ^ k : Nat) : Int) = (2 : Int) ^ k by simp] at hwk
      have HBT := Lib.hid hbt
      clear hand hbt h0 hml hS62
      cases bt with
      | false =>
        have dprop : bits .and .i64 (S : Int) ((2 : Int) ^ k) = 0 := by simpa using dbit
        have dneq : (bits .and .i64 (S : Int) ((2 : Int) ^ k) != 0) = false := by rw [dprop]; rfl
        have HNX := Lib.hid (memTo_no HBT.out)
        go_wp2_with fail
        go_roundg (m - (k + 1))
        case measure => omega
        case rel => exact ⟨k + 1, by omega, rfl, by go_num, by rw [HNX.out]; exact HOWN.out, HCG.out⟩
      | true =>
        have dprop : ¬ bits .and .i64 (S : Int) ((2 : Int) ^ k) = 0 := by simpa using dbit
        have dneq : (bits .and .i64 (S : Int) ((2 : Int) ^ k) != 0) = true := by rw [bne_iff_ne]; exact dprop
        have HNX := Lib.hid (memTo_yes HBT.out)
        have HNEW : Hid (∀ j u, [Value.int .i64 (k : Int)][j]? = some u → (wr.alloc (Obj.cells #[.int .i64 (k : Int)] 3)).cell? ((⟨wr.heap.size, 0, none⟩ : Addr).add j) = some u) := Lib.hid (fun j u hu => by
          rw [add_plain, Nat.zero_add]
          exact (Blk.new wr #[.int .i64 (k : Int)] 3).cell_some hu)
        have hml2 : (memTo S k).length ≤ 14 := by rw [memTo_len]; omega
        obtain ⟨cn, hcn⟩ : ∃ cn, (memTo S k).length = cn := ⟨_, rfl⟩
        rw [hcn] at HOWN hml2
        have HCN := Lib.hid hcn
        clear hcn
        go_wp2_with (at_builtin; refine wpList_append_two rfl (.tmp 16) (.tmp 18) 40 rfl w.heap.size 3 i0 (.int .i64 0) 1 8 Try.underlying40 HI0.out HZ0.out HZ1.out HZ2.out rfl (by decide) _ cn ((memTo S k).map (Value.int .i64)) rfl (HOWN.out.alloc _) ⟨wr.heap.size, 0, none⟩ 1 1 [.int .i64 (k : Int)] rfl rfl HNEW.out (by intro u hu; simp at hu; subst hu; rfl) (by simp [maxLen]; omega) (by omega) (by simp; omega) ?_; intro v1 w3 hown1 hgrow1 hv1; have HOWN1 := Lib.hid hown1; have HGROW1 := Lib.hid hgrow1; clear hown1 hgrow1 hv1)
        go_roundg (m - (k + 1))
        case measure => omega
        case rel =>
          refine ⟨k + 1, by omega, rfl, by go_num, ?_, (HCG.out.alloc _).trans (Chg.of_grownRow HGROW1.out) (fun kk hk => .inr ((HOWN.out.lt kk hk.symm).1))⟩
          rw [HNX.out, List.length_append, List.map_append, HCN.out]
          exact HOWN1.out
end Go.Proofs.Ytmmpdfcnenljhaa
