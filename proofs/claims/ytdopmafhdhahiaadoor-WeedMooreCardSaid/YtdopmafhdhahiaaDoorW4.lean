/- Additive, of the program and of its reference. Their conditions are their premises. -/
import Derived.Test.YtdopmafhdhahiaaDoorW3
set_option linter.unusedVariables false
namespace Go.Proofs.YtdopmafhdhahiaaDoor
open Go.RowKit

theorem i64_xor_nat (a b : Nat) (ha : a < 256) (hb : b < 256) : bits .xor .i64 (a : Int) (b : Int) = ((a ^^^ b : Nat) : Int) := by
  have hx : a ^^^ b < 2 ^ 8 := Nat.xor_lt_two_pow (by omega) (by omega)
  show IntKind.i64.wrap ((BitVec.ofInt 64 (a : Int) ^^^ BitVec.ofInt 64 (b : Int)).toNat : Int) = _
  rw [BitVec.toNat_xor, ofInt_u64 a (by omega), ofInt_u64 b (by omega)]
  rw [IntKind.wrap_i64]
  omega

/-- The test that Additive asks of two places. -/
def Adds (u s t : Nat) : Prop := bit u s ^^^ bit u t = bit u (s ^^^ t)
instance (u s t : Nat) : Decidable (Adds u s t) := inferInstanceAs (Decidable (_ = _))
open Classical in
noncomputable def addB (u : Nat) : Bool := decide (∀ s, s < 8 → ∀ t, t < 8 → Adds u s t)
theorem addB_true {n : Nat} (h : ∀ s, s < 8 → ∀ t, t < 8 → Adds n s t) : addB n = true := @decide_eq_true _ (Classical.propDecidable _) h
theorem addB_false {n : Nat} (h : ¬ ∀ s, s < 8 → ∀ t, t < 8 → Adds n s t) : addB n = false := @decide_eq_false _ (Classical.propDecidable _) h
noncomputable def addV (u : Int) : Value := if 0 ≤ u ∧ u ≤ 255 then .tuple #[.bool (addB u.toNat), .int .i64 0] else .tuple #[.bool false, .int .i64 2]
theorem xor_lt8 {s t : Nat} (hs : s < 8) (ht : t < 8) : s ^^^ t < 8 := Nat.xor_lt_two_pow (n := 3) hs ht

set_option maxRecDepth 100000 in
set_option maxHeartbeats 400000 in
theorem additive_any (u : Int) (w : World) : Calls Tryd.prog 13 #[.int .i64 u] w fun e w' => e = .returned (addV u) ∧ w' = w := by
  go_enter Tryd.func13, Tryd.ntmps13
  go_wp2_with fail
  refine (known_any u _).mono ?_
  rintro e W ⟨rfl, rfl⟩
  by_cases hu : 0 ≤ u ∧ u ≤ 255
  · have hd : decide (0 ≤ u ∧ u ≤ 255) = true := by simpa using hu
    have HV := Lib.hid (show addV u = .tuple #[.bool (addB u.toNat), .int .i64 0] by unfold addV; rw [if_pos hu])
    obtain ⟨n, rfl, hn⟩ := of_rule hu
    clear hu
    simp only [hd]
    go_wp2_with fail
    go_loopg [9] 8 (fun gm sv wr => ∃ s : Nat, s ≤ 8 ∧ gm = 8 - s ∧ sv = .int .i64 s ∧ (∀ x, x < s → ∀ t, t < 8 → Adds n x t) ∧ wr = W)
    case atStart => exact ⟨0, by omega, by omega, rfl, fun x hx => by omega, rfl⟩
    case round =>
      obtain ⟨s, hs, rfl, rfl, hall, rfl⟩ := hrel
      have HALL := Lib.hid hall
      clear hall
      by_cases hlt : s < 8
      · have dl : decide ((s : Int) < 8) = true := by simp; omega
        go_wp2_with fail
        go_loopg [12] 8 (fun gm tv wr2 => ∃ t : Nat, t ≤ 8 ∧ gm = 8 - t ∧ tv = .int .i64 t ∧ (∀ y, y < t → Adds n s y) ∧ wr2 = wr)
        case atStart => exact ⟨0, by omega, by omega, rfl, fun x hx => by omega, rfl⟩
        case round =>
          obtain ⟨t, ht, rfl, rfl, hall, rfl⟩ := hrel
          have HALT := Lib.hid hall
          clear hall
          by_cases hlu : t < 8
          · have dt : decide ((t : Int) < 8) = true := by simp; omega
            have hx := i64_xor_nat s t (by omega) (by omega)
            have hy := i64_xor_nat (bit n s) (bit n t) (by have := bit_lt n s; omega) (by have := bit_lt n t; omega)
            have hz := xor_lt8 hlt hlu
            obtain ⟨st, hst⟩ : ∃ st, s ^^^ t = st := ⟨_, rfl⟩
            rw [hst] at hx hz
            go_wp2_with fail
            refine (of_any n s hn hlt _).mono ?_
            rintro e W ⟨rfl, rfl⟩
            go_wp2_with fail
            refine (of_any n t hn hlu _).mono ?_
            rintro e W ⟨rfl, rfl⟩
            go_wp2_with fail
            refine (of_any n st hn hz _).mono ?_
            rintro e W ⟨rfl, rfl⟩
            by_cases had : bit n s ^^^ bit n t = bit n st
            · have dne : (((bit n s ^^^ bit n t : Nat) : Int) != (bit n st : Int)) = false := by rw [had]; simp
              go_wp2_with fail
              go_roundg (8 - (t + 1))
              case measure => omega
              case rel => exact ⟨t + 1, by omega, rfl, by go_num, fun y hy => by
                by_cases hyt : y < t
                · exact HALT.out y hyt
                · obtain rfl : y = t := by omega
                  show _ = bit n (s ^^^ y)
                  rw [hst]
                  exact had, rfl⟩
            · have dne : (((bit n s ^^^ bit n t : Nat) : Int) != (bit n st : Int)) = true := by simp; omega
              go_wp2_with fail
              go_ret2
              rw [HV.out]
              refine ⟨?_, rfl⟩
              simp only [Int.toNat_natCast]
              rw [addB_false (fun hh => had (by rw [← hst]; exact hh s hlt t hlu))]
              rfl
          · obtain rfl : t = 8 := by omega
            go_wp2_with fail
            go_roundg (8 - (s + 1))
            case measure => omega
            case rel => exact ⟨s + 1, by omega, rfl, by go_num, fun x hx => by
              by_cases hxs : x < s
              · exact HALL.out x hxs
              · obtain rfl : x = s := by omega
                exact HALT.out, rfl⟩
      · obtain rfl : s = 8 := by omega
        go_wp2_with fail
        go_ret2
        rw [HV.out]
        refine ⟨?_, rfl⟩
        simp only [Int.toNat_natCast]
        rw [addB_true HALL.out]
        rfl
  · have hd : decide (0 ≤ u ∧ u ≤ 255) = false := by simpa using hu
    have HV := Lib.hid (show addV u = .tuple #[.bool false, .int .i64 2] by unfold addV; rw [if_neg hu])
    clear hu
    simp only [hd]
    go_wp2_with fail
    go_ret2
    rw [HV.out]
    exact ⟨rfl, rfl⟩

theorem tmod_bit (n s : Nat) : ((n : Int) / 2 ^ s).tmod 2 = (bit n s : Int) := by
  rw [show (n : Int) / 2 ^ s = ((n / 2 ^ s : Nat) : Int) by simp, Int.tmod_eq_emod_of_nonneg (Int.natCast_nonneg _)]
  unfold bit
  simp

set_option maxRecDepth 100000 in
set_option maxHeartbeats 400000 in
theorem radditive_any (u : Int) (w : World) : Calls Tryd.prog 14 #[.int .i64 u] w fun e w' => e = .returned (addV u) ∧ Chg (fun _ => False) w w' := by
  go_enter Tryd.func14, Tryd.ntmps14
  go_wp2_with fail
  refine (rule_any u _).mono ?_
  rintro e W ⟨rfl, rfl⟩
  by_cases hu : 0 ≤ u ∧ u ≤ 255
  · have hd : decide (0 ≤ u ∧ u ≤ 255) = true := by simpa using hu
    have HV := Lib.hid (show addV u = .tuple #[.bool (addB u.toNat), .int .i64 0] by unfold addV; rw [if_pos hu])
    obtain ⟨n, rfl, hn⟩ := of_rule hu
    clear hu
    simp only [hd]
    go_wp2_with fail
    go_loopg [4] 8 (fun gm sv wr => ∃ s : Nat, s ≤ 8 ∧ gm = 8 - s ∧ sv = .int .i64 s ∧ (∀ x, x < s → ∀ t, t < 8 → Adds n x t) ∧ Chg (fun _ => False) W wr)
    case atStart => exact ⟨0, by omega, by omega, rfl, fun x hx => by omega, Chg.refl _ _⟩
    case round =>
      obtain ⟨s, hs, rfl, rfl, hall, hcg⟩ := hrel
      have HALL := Lib.hid hall; have HCG := Lib.hid hcg
      clear hall hcg
      by_cases hlt : s < 8
      · have dl : decide ((s : Int) < 8) = true := by simp; omega
        go_wp2_with fail
        go_loopg [5] 8 (fun gm tv wr2 => ∃ t : Nat, t ≤ 8 ∧ gm = 8 - t ∧ tv = .int .i64 t ∧ (∀ y, y < t → Adds n s y) ∧ Chg (fun _ => False) W wr2)
        case atStart => exact ⟨0, by omega, by omega, rfl, fun x hx => by omega, HCG.out⟩
        case round =>
          clear HCG
          obtain ⟨t, ht, rfl, rfl, hall, hcg⟩ := hrel
          have HALT := Lib.hid hall; have HCG := Lib.hid hcg
          clear hall hcg
          by_cases hlu : t < 8
          · have dt : decide ((t : Int) < 8) = true := by simp; omega
            have hx := i64_xor_nat s t (by omega) (by omega)
            have hy := i64_xor_nat (bit n s) (bit n t) (by have := bit_lt n s; omega) (by have := bit_lt n t; omega)
            obtain ⟨st, hst⟩ : ∃ st, s ^^^ t = st := ⟨_, rfl⟩
            have hz := xor_lt8 hlt hlu
            rw [hst] at hx hz
            have b1 := tmod_bit n s; have b2 := tmod_bit n t; have b3 := tmod_bit n st
            by_cases had : bit n s ^^^ bit n t = bit n st
            · have dne : (((bit n s ^^^ bit n t : Nat) : Int) != (bit n st : Int)) = false := by rw [had]; simp
              go_wp2_with fail
              go_quiet (fail)
              go_wp2_with fail
              go_roundg (8 - (t + 1))
              case measure => omega
              case rel => exact ⟨t + 1, by omega, rfl, by go_num, fun y hy => by
                by_cases hyt : y < t
                · exact HALT.out y hyt
                · obtain rfl : y = t := by omega
                  show _ = bit n (s ^^^ y)
                  rw [hst]
                  exact had, HCG.out.drewN _⟩
            · have dne : (((bit n s ^^^ bit n t : Nat) : Int) != (bit n st : Int)) = true := by simp; omega
              go_wp2_with fail
              go_quiet (fail)
              go_wp2_with fail
              go_ret2
              rw [HV.out]
              refine ⟨?_, HCG.out.drewN _⟩
              simp only [Int.toNat_natCast]
              rw [addB_false (fun hh => had (by rw [← hst]; exact hh s hlt t hlu))]
              rfl
          · obtain rfl : t = 8 := by omega
            go_wp2_with fail
            go_roundg (8 - (s + 1))
            case measure => omega
            case rel => exact ⟨s + 1, by omega, rfl, by go_num, fun x hx => by
              by_cases hxs : x < s
              · exact HALL.out x hxs
              · obtain rfl : x = s := by omega
                exact HALT.out, HCG.out⟩
      · obtain rfl : s = 8 := by omega
        go_wp2_with fail
        go_ret2
        rw [HV.out]
        refine ⟨?_, HCG.out⟩
        simp only [Int.toNat_natCast]
        rw [addB_true HALL.out]
        rfl
  · have hd : decide (0 ≤ u ∧ u ≤ 255) = false := by simpa using hu
    have HV := Lib.hid (show addV u = .tuple #[.bool false, .int .i64 2] by unfold addV; rw [if_neg hu])
    clear hu
    simp only [hd]
    go_wp2_with fail
    go_ret2
    rw [HV.out]
    exact ⟨rfl, Chg.refl _ _⟩
end Go.Proofs.YtdopmafhdhahiaaDoor
