/- Same, walked, both. Their conditions are their premises. -/
import Derived.Test.YtilacamhjibneaaDoorV38
set_option linter.unusedVariables false
namespace Go.Proofs.YtilacamhjibneaaDoor
open Go.RowKit

def ln (V : List (List Nat)) (t : List Nat) (y : Nat) : Nat := (gen V y t).length
theorem ln_small {V : List (List Nat)} (hV : WF V) {t : List Nat} (hl : t.length ≤ 30) {y : Nat} (hy : y ≤ 12) : ln V t y ≤ 2061584302080 := by
  have h := gen_len hV y t
  have h2 : 8 ^ y ≤ 8 ^ 12 := Nat.pow_le_pow_right (by decide) hy
  have h3 : 8 ^ y * t.length ≤ 8 ^ 12 * 30 := Nat.mul_le_mul h2 hl
  have : (8 : Nat) ^ 12 * 30 = 2061584302080 := by decide
  unfold ln
  omega
theorem sum_ln {V : List (List Nat)} (hV : WF V) {t : List Nat} (ht : ∀ c ∈ t, c < V.length) (hl : t.length ≤ 30) {y : Nat} (hy : y ≤ 12) : sumV (agedF V t y) = ln V t y := by
  have h := ln_small hV hl hy
  rw [sum_gen hV ht (by unfold lim; omega) y]
  unfold ln lim at *
  omega
theorem lng_ln {V : List (List Nat)} (hV : WF V) {t : List Nat} (ht : ∀ c ∈ t, c < V.length) (hl : t.length ≤ 30) {y : Nat} (hy : y ≤ 12) : lngV t (tab V y) = ln V t y := by
  have h := ln_small hV hl hy
  rw [lng_gen hV y t ht]
  unfold ln M63 at *
  omega
/-- The first year, from y on, in which they differ; f years are looked at. -/
def sameF (a b : Nat → Nat) : Nat → Nat → Value
  | 0, _ => .tuple #[.int .i64 0, .int .i64 10]
  | f + 1, y => if a y = b y then sameF a b f (y + 1) else .tuple #[.int .i64 (y : Int), .int .i64 0]

theorem two_ok (V : List (List Nat)) (hV : WF V) (t : List Nat) (ht : ∀ c ∈ t, c < V.length) (hl : t.length ≤ 30) (b off cap : Nat) (W : List (List Nat)) (hW : WF W) (u : List Nat) (hu : ∀ c ∈ u, c < W.length) (hul : u.length ≤ 30) (b2 off2 cap2 : Nat) (w : World) (hv : VAt w b off V) (hw : VAt w b2 off2 W) :
    Calls Tryd.prog 79 #[.slice (some ⟨b, off, none⟩) V.length cap, .string (str t), .slice (some ⟨b2, off2, none⟩) W.length cap2, .string (str u)] w fun e w' => e = .returned (.tuple #[.slice (some ⟨b, off, none⟩) V.length cap, .slice (some ⟨b2, off2, none⟩) W.length cap2, .int .i64 0]) ∧ w' = w := by
  have H1 := Lib.hid (shot_ok V hV t ht hl b off cap w hv)
  have H2 := Lib.hid (shot_ok W hW u hu hul b2 off2 cap2 w hw)
  clear hv hw hV hW ht hu
  go_enter Tryd.func79, Tryd.ntmps79
  go_wp2_with fail
  refine H1.out.mono ?_
  rintro e w1 ⟨rfl, rfl⟩
  go_wp2_with fail
  refine H2.out.mono ?_
  rintro e w1 ⟨rfl, rfl⟩
  go_wp2_with fail
  go_ret3
  exact ⟨rfl, rfl⟩
theorem both_ok (V : List (List Nat)) (hV : WF V) (t : List Nat) (ht : ∀ c ∈ t, c < V.length) (hl : t.length ≤ 30) (b off cap : Nat) (W : List (List Nat)) (hW : WF W) (u : List Nat) (hu : ∀ c ∈ u, c < W.length) (hul : u.length ≤ 30) (b2 off2 cap2 : Nat) (w : World) (hv : VAt w b off V) (hw : VAt w b2 off2 W) :
    Calls Tryd.prog 80 #[.slice (some ⟨b, off, none⟩) V.length cap, .string (str t), .slice (some ⟨b2, off2, none⟩) W.length cap2, .string (str u)] w fun e w' => e = .returned (.int .i64 0) ∧ w' = w := by
  have H1 := Lib.hid (rshoot_ok V hV t ht hl b off cap w hv)
  have H2 := Lib.hid (rshoot_ok W hW u hu hul b2 off2 cap2 w hw)
  clear hv hw hV hW ht hu
  go_enter Tryd.func80, Tryd.ntmps80
  go_wp2_with fail
  refine H1.out.mono ?_
  rintro e w1 ⟨rfl, rfl⟩
  go_wp2_with fail
  refine H2.out.mono ?_
  rintro e w1 ⟨rfl, rfl⟩
  go_wp2_with fail
  go_ret
  exact ⟨rfl, rfl⟩

set_option maxRecDepth 100000 in
set_option maxHeartbeats 1000000 in
theorem same_ok (V : List (List Nat)) (hV : WF V) (t : List Nat) (ht : ∀ c ∈ t, c < V.length) (hl : t.length ≤ 30) (b off cap : Nat) (W : List (List Nat)) (hW : WF W) (u : List Nat) (hu : ∀ c ∈ u, c < W.length) (hul : u.length ≤ 30) (b2 off2 cap2 : Nat) (w : World) (hv : VAt w b off V) (hw : VAt w b2 off2 W) :
    Calls Tryd.prog 37 #[.slice (some ⟨b, off, none⟩) V.length cap, .string (str t), .slice (some ⟨b2, off2, none⟩) W.length cap2, .string (str u)] w fun e w' => e = .returned (sameF (ln V t) (ln W u) (V.length + W.length) 0) ∧ Chg (fun _ => False) w w' := by
  have hn6 := hV.le
  have hm6 := hW.le
  have HTW := Lib.hid (two_ok V hV t ht hl b off cap W hW u hu hul b2 off2 cap2 w hv hw)
  have HV := Lib.hid hv; have HW := Lib.hid hw; have HWV := Lib.hid hV; have HWW := Lib.hid hW; have HT := Lib.hid ht; have HU := Lib.hid hu
  have HCV := Lib.hid (fun w => counts_any V.length t (some ⟨b, off, none⟩) cap w (by omega) ht (by omega))
  have HCW := Lib.hid (fun w => counts_any W.length u (some ⟨b2, off2, none⟩) cap2 w (by omega) hu (by omega))
  have HLV := Lib.hid (agedF_len V t); have HLW := Lib.hid (agedF_len W u)
  have HEV := Lib.hid (agedF_le V t (by omega)); have HEW := Lib.hid (agedF_le W u (by omega))
  clear hv hw hV hW ht hu
  obtain ⟨R, hR⟩ : ∃ R, sameF (ln V t) (ln W u) (V.length + W.length) 0 = R := ⟨_, rfl⟩
  have HR := Lib.hid hR
  rw [hR]
  clear hR
  go_enter Tryd.func37, Tryd.ntmps37
  go_wp2_with fail
  refine HTW.out.mono ?_
  rintro e w1 ⟨rfl, rfl⟩
  go_wp2_with fail
  refine (HCV.out w1).mono ?_
  rintro e w2 ⟨rfl, hb2, hc2⟩
  obtain ⟨gx, hgx⟩ : ∃ gx, w1.heap.size = gx := ⟨_, rfl⟩
  rw [hgx] at hb2 ⊢
  have HB2 := Lib.hid hb2; have HC2 := Lib.hid hc2
  clear hb2 hc2 hgx
  go_wp2_with fail
  refine (HCW.out w2).mono ?_
  rintro e w3 ⟨rfl, hb3, hc3⟩
  obtain ⟨gy, hgy⟩ : ∃ gy, w2.heap.size = gy := ⟨_, rfl⟩
  rw [hgy] at hb3 ⊢
  have HB3 := Lib.hid hb3; have HX3 := Lib.hid (hc3.blk HB2.out (fun x => x)); have HC3 := Lib.hid (HC2.out.trans hc3 (fun _ x => x.elim))
  clear hb3 hc3 hgy
  go_wp2_with fail
  go_loopg [39, 13, 14] (V.length + W.length) (fun gm kv xv yv wr => ∃ k gx gy : Nat, k ≤ V.length + W.length ∧ gm = V.length + W.length - k ∧ kv = .int .i64 k ∧ xv = .slice (some ⟨gx, 0, none⟩) V.length V.length ∧ yv = .slice (some ⟨gy, 0, none⟩) W.length W.length ∧
    Blk wr gx 3 (nv (agedF V t k)) ∧ Blk wr gy 3 (nv (agedF W u k)) ∧ Chg (fun _ => False) w1 wr ∧ sameF (ln V t) (ln W u) (V.length + W.length - k) k = R)
  case atStart => exact ⟨0, gx, gy, by omega, by omega, rfl, rfl, rfl, HX3.out, HB3.out, HC3.out, HR.out⟩
  case round =>
    clear HX3 HB3 HC3 HB2 HC2
    obtain ⟨k, gx, gy, hk, rfl, rfl, rfl, rfl, hx, hy, hc, hr⟩ := hrel
    have HX := Lib.hid hx; have HY := Lib.hid hy; have HC := Lib.hid hc; have HRR := Lib.hid hr
    clear hx hy hc hr
    by_cases hlt : k < V.length + W.length
    · have d0 : decide ((k : Int) < (V.length : Int) + (W.length : Int)) = true := by simp; omega
      have HS1 := Lib.hid (sum_any (agedF V t k) gx 0 V.length wr (nats_of_blk HX.out) (HEV.out k) (by rw [HLV.out]; omega))
      have HS2 := Lib.hid (sum_any (agedF W u k) gy 0 W.length wr (nats_of_blk HY.out) (HEW.out k) (by rw [HLW.out]; omega))
      rw [HLV.out, sum_ln HWV.out HT.out hl (by omega)] at HS1
      rw [HLW.out, sum_ln HWW.out HU.out hul (by omega)] at HS2
      obtain ⟨f, hf⟩ : ∃ f, V.length + W.length - k = f + 1 := ⟨V.length + W.length - k - 1, by omega⟩
      have HF := Lib.hid hf
      have HRN : Hid ((if ln V t k = ln W u k then sameF (ln V t) (ln W u) f (k + 1) else .tuple #[.int .i64 (k : Int), .int .i64 0]) = R) := Lib.hid (by rw [← HRR.out, hf]; rfl)
      clear hf
      have HA1 := Lib.hid (after_any V HWV.out (agedF V t k) b off cap gx 0 V.length wr (HV.out.chg HC.out (fun x => x)) (nats_of_blk HX.out) (HLV.out k) (HEV.out k))
      obtain ⟨p, hp⟩ : ∃ p, ln V t k = p := ⟨_, rfl⟩
      obtain ⟨q, hq⟩ : ∃ q, ln W u k = q := ⟨_, rfl⟩
      rw [hp] at HS1 HRN
      rw [hq] at HS2 HRN
      clear hp hq
      by_cases hpq : p = q
      · rw [if_pos hpq] at HRN
        subst hpq
        go_wp2_with fail
        refine HS1.out.mono ?_
        rintro e w4 ⟨rfl, rfl⟩
        go_wp2_with fail
        refine HS2.out.mono ?_
        rintro e w4 ⟨rfl, rfl⟩
        go_wp2_with fail
        refine HA1.out.mono ?_
        rintro e w5 ⟨rfl, hb5, hc5⟩
        obtain ⟨g5, hg5⟩ : ∃ g5, w4.heap.size = g5 := ⟨_, rfl⟩
        rw [hg5] at hb5 ⊢
        have HB5 := Lib.hid hb5; have HY5 := Lib.hid (hc5.blk HY.out (fun x => x)); have HC5 := Lib.hid (HC.out.trans hc5 (fun _ x => x.elim))
        clear hb5 hc5 hg5
        go_wp2_with fail
        refine (after_any W HWW.out (agedF W u k) b2 off2 cap2 gy 0 W.length w5 (HW.out.chg HC5.out (fun x => x)) (nats_of_blk HY5.out) (HLW.out k) (HEW.out k)).mono ?_
        rintro e w6 ⟨rfl, hb6, hc6⟩
        obtain ⟨g6, hg6⟩ : ∃ g6, w5.heap.size = g6 := ⟨_, rfl⟩
        rw [hg6] at hb6 ⊢
        have HB6 := Lib.hid hb6; have HX6 := Lib.hid (hc6.blk HB5.out (fun x => x)); have HC6 := Lib.hid (HC5.out.trans hc6 (fun _ x => x.elim))
        clear hb6 hc6 hg6
        go_wp2_with fail
        go_roundg (V.length + W.length - (k + 1))
        case measure => omega
        case rel => exact ⟨k + 1, g5, g6, by omega, rfl, by go_num, rfl, rfl, HX6.out, HB6.out, HC6.out, by rw [show V.length + W.length - (k + 1) = f by have := HF.out; omega]; exact HRN.out⟩
      · have hpq' : ¬ (p : Int) = (q : Int) := by omega
        rw [if_neg hpq] at HRN
        clear HA1
        go_wp2_with fail
        refine HS1.out.mono ?_
        rintro e w4 ⟨rfl, rfl⟩
        go_wp2_with fail
        refine HS2.out.mono ?_
        rintro e w4 ⟨rfl, rfl⟩
        go_wp2_with fail
        go_ret2
        exact ⟨by rw [← HRN.out]; rfl, HC.out⟩
    · obtain rfl : k = V.length + W.length := by omega
      have d0 : decide (((V.length + W.length : Nat) : Int) < (V.length : Int) + (W.length : Int)) = false := by simp
      have HRN : Hid (.tuple #[.int .i64 0, .int .i64 10] = R) := Lib.hid (by rw [← HRR.out, Nat.sub_self]; rfl)
      go_wp2_with fail
      go_ret2
      exact ⟨by rw [← HRN.out]; rfl, HC.out⟩
end Go.Proofs.YtilacamhjibneaaDoor
