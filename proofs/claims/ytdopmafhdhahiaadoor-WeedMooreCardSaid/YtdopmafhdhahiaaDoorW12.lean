/- Eden and Onto of the program. Their conditions are their premises. -/
import Derived.Test.YtdopmafhdhahiaaDoorW11
set_option linter.unusedVariables false
namespace Go.Proofs.YtdopmafhdhahiaaDoor
open Go.RowKit Go.Maps

/-- What Eden answers. -/
def edenV (u most : Int) : Value :=
  if (0 ≤ u ∧ u ≤ 255) ∧ 1 ≤ most ∧ most ≤ 20 then (match orphV u.toNat (some most.toNat) with | some l => .tuple #[.string (txt l), .int .i64 0] | none => .tuple #[.string ⟨#[]⟩, .int .i64 10])
  else .tuple #[.string ⟨#[]⟩, .int .i64 2]
def ontoV (u : Int) : Value := if 0 ≤ u ∧ u ≤ 255 then .tuple #[.bool (orphV u.toNat none).isNone, .int .i64 0] else .tuple #[.bool false, .int .i64 2]

set_option maxRecDepth 100000 in
set_option maxHeartbeats 400000 in
theorem onto_any (u : Int) (w : World) : Calls Tryd.prog 8 #[.int .i64 u] w fun e w' => e = .returned (ontoV u) ∧ Chg (fun _ => False) w w' := by
  go_enter Tryd.func8, Tryd.ntmps8
  go_wp2_with fail
  refine (known_any u _).mono ?_
  rintro e W ⟨rfl, rfl⟩
  by_cases hu : 0 ≤ u ∧ u ≤ 255
  · have hd : decide (0 ≤ u ∧ u ≤ 255) = true := by simpa using hu
    have HV := Lib.hid (show ontoV u = .tuple #[.bool (orphV u.toNat none).isNone, .int .i64 0] by unfold ontoV; rw [if_pos hu])
    obtain ⟨n, rfl, hn⟩ := of_rule hu
    clear hu
    simp only [hd]
    go_wp2_with fail
    refine (orphan_any n (-1) hn _).mono ?_
    rintro e w2 ⟨rfl, hc⟩
    have HC := Lib.hid hc
    clear hc
    rw [show mostO (-1) = none from rfl]
    simp only [Int.toNat_natCast] at HV
    cases ho : orphV n none with
    | none =>
      rw [ho] at HV
      unfold orphR
      go_wp2_with fail
      go_ret2
      rw [HV.out]
      exact ⟨rfl, HC.out⟩
    | some l =>
      rw [ho] at HV
      unfold orphR
      go_wp2_with fail
      go_ret2
      rw [HV.out]
      exact ⟨rfl, HC.out⟩
  · have hd : decide (0 ≤ u ∧ u ≤ 255) = false := by simpa using hu
    have HV := Lib.hid (show ontoV u = .tuple #[.bool false, .int .i64 2] by unfold ontoV; rw [if_neg hu])
    clear hu
    simp only [hd]
    go_wp2_with fail
    go_ret2
    rw [HV.out]
    exact ⟨rfl, Chg.refl _ _⟩

set_option maxRecDepth 100000 in
set_option maxHeartbeats 400000 in
theorem eden_any (u most : Int) (w : World) : Calls Tryd.prog 6 #[.int .i64 u, .int .i64 most] w fun e w' => e = .returned (edenV u most) ∧ Chg (fun _ => False) w w' := by
  go_enter Tryd.func6, Tryd.ntmps6
  go_wp2_with fail
  refine (known_any u _).mono ?_
  rintro e W ⟨rfl, rfl⟩
  by_cases hu : 0 ≤ u ∧ u ≤ 255
  · have hd : decide (0 ≤ u ∧ u ≤ 255) = true := by simpa using hu
    by_cases h1 : most < 1
    · have d1 : decide (most < 1) = true := by simpa using h1
      have HV := Lib.hid (show edenV u most = .tuple #[.string ⟨#[]⟩, .int .i64 2] by unfold edenV; rw [if_neg (by omega)])
      clear hu h1
      simp only [hd]
      go_wp2_with fail
      go_ret2
      rw [HV.out]
      exact ⟨rfl, Chg.refl _ _⟩
    · have d1 : decide (most < 1) = false := by simpa using h1
      by_cases h2 : 20 < most
      · have d2 : decide (20 < most) = true := by simpa using h2
        have HV := Lib.hid (show edenV u most = .tuple #[.string ⟨#[]⟩, .int .i64 2] by unfold edenV; rw [if_neg (by omega)])
        clear hu h1 h2
        simp only [hd]
        go_wp2_with fail
        go_ret2
        rw [HV.out]
        exact ⟨rfl, Chg.refl _ _⟩
      · have d2 : decide (20 < most) = false := by simpa using h2
        have HV := Lib.hid (show edenV u most = (match orphV u.toNat (some most.toNat) with | some l => .tuple #[.string (txt l), .int .i64 0] | none => .tuple #[.string ⟨#[]⟩, .int .i64 10]) by unfold edenV; rw [if_pos (by omega)])
        obtain ⟨n, rfl, hn⟩ := of_rule hu
        have hmo : mostO most = some most.toNat := by unfold mostO; rw [if_pos (by omega)]
        clear hu h1 h2
        simp only [hd]
        go_wp2_with fail
        refine (orphan_any n most hn _).mono ?_
        rintro e w2 ⟨rfl, hc⟩
        have HC := Lib.hid hc
        clear hc
        rw [hmo]
        simp only [Int.toNat_natCast] at HV
        cases ho : orphV n (some most.toNat) with
        | none =>
          rw [ho] at HV
          unfold orphR
          go_wp2_with fail
          go_ret2
          rw [HV.out]
          exact ⟨rfl, HC.out⟩
        | some l =>
          rw [ho] at HV
          unfold orphR
          go_wp2_with fail
          go_ret2
          rw [HV.out]
          exact ⟨rfl, HC.out⟩
  · have hd : decide (0 ≤ u ∧ u ≤ 255) = false := by simpa using hu
    have HV := Lib.hid (show edenV u most = .tuple #[.string ⟨#[]⟩, .int .i64 2] by unfold edenV; rw [if_neg (fun h => hu h.1)])
    clear hu
    simp only [hd]
    go_wp2_with fail
    go_ret2
    rw [HV.out]
    exact ⟨rfl, Chg.refl _ _⟩
end Go.Proofs.YtdopmafhdhahiaaDoor
