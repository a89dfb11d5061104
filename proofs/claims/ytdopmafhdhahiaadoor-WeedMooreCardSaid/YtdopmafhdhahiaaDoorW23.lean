/- Eden and Onto of the reference; the two searches find the same. Their conditions are their premises. -/
import Derived.Test.YtdopmafhdhahiaaDoorW22
set_option linter.unusedVariables false
namespace Go.Proofs.YtdopmafhdhahiaaDoor
open Go.RowKit Go.Maps

def cutO (m : Nat) : Option (List Nat) → Option (List Nat)
  | some l => if l.length ≤ m then some l else none
  | none => none
theorem orph_all : (allB 256 fun u => allB 21 fun m => orphV u (some m) == cutO m (rorphV u)) = true := by decide +kernel
theorem orph_eq {u m : Nat} (hu : u < 256) (hm : m ≤ 20) : orphV u (some m) = cutO m (rorphV u) := by
  have := allB_at (allB_at orph_all hu) (show m < 21 by omega)
  simpa using this
theorem onto_all : (allB 256 fun u => orphV u none == rorphV u) = true := by decide +kernel
theorem onto_eq {u : Nat} (hu : u < 256) : orphV u none = rorphV u := by
  have := allB_at onto_all hu
  simpa using this
theorem short_all : (allB 256 fun u => match rorphV u with | some l => decide (l.length ≤ 100) | none => true) = true := by decide +kernel
theorem rorph_short {u : Nat} (hu : u < 256) {l : List Nat} (h : rorphV u = some l) : l.length ≤ 100 := by
  have := allB_at short_all hu
  rw [h] at this
  simpa using this

set_option maxRecDepth 100000 in
set_option maxHeartbeats 400000 in
theorem ronto_any (u : Int) (w : World) : Calls Tryd.prog 9 #[.int .i64 u] w fun e w' => e = .returned (ontoV u) ∧ Chg (fun _ => False) w w' := by
  go_enter Tryd.func9, Tryd.ntmps9
  go_wp2_with fail
  refine (rule_any u _).mono ?_
  rintro e W ⟨rfl, rfl⟩
  by_cases hu : 0 ≤ u ∧ u ≤ 255
  · have hd : decide (0 ≤ u ∧ u ≤ 255) = true := by simpa using hu
    have HV := Lib.hid (show ontoV u = .tuple #[.bool (orphV u.toNat none).isNone, .int .i64 0] by unfold ontoV; rw [if_pos hu])
    obtain ⟨n, rfl, hn⟩ := of_rule hu
    clear hu
    simp only [hd]
    go_wp2_with fail
    refine (rorphan_any n hn _).mono ?_
    rintro e w2 ⟨rfl, hc⟩
    have HC := Lib.hid hc
    clear hc
    simp only [Int.toNat_natCast] at HV
    rw [onto_eq hn] at HV
    cases ho : rorphV n with
    | none =>
      rw [ho] at HV
      unfold rorphR
      go_wp2_with fail
      go_ret2
      rw [HV.out]
      exact ⟨rfl, HC.out⟩
    | some l =>
      rw [ho] at HV
      unfold rorphR
      go_wp2_with fail
      go_ret2
      rw [HV.out]
      exact ⟨rfl, HC.out⟩
  · have hd : decide (0 ≤ u ∧ u ≤ 255) = false := by simpa using hu
    have HV := Lib.hid (show ontoV u = .tuple #[.bool false, .int .i64 2] by unfold ontoV; rw [if_neg hu])
    clear hu
    simp only [hd]
    go_wp2_with fail
    go_ret2
    rw [HV.out]
    exact ⟨rfl, Chg.refl _ _⟩

set_option maxRecDepth 100000 in
set_option maxHeartbeats 400000 in
theorem reden_any (u most : Int) (w : World) : Calls Tryd.prog 7 #[.int .i64 u, .int .i64 most] w fun e w' => e = .returned (edenV u most) ∧ Chg (fun _ => False) w w' := by
  go_enter Tryd.func7, Tryd.ntmps7
  go_wp2_with fail
  refine (rule_any u _).mono ?_
  rintro e W ⟨rfl, rfl⟩
  by_cases hu : 0 ≤ u ∧ u ≤ 255
  · have hd : decide (0 ≤ u ∧ u ≤ 255) = true := by simpa using hu
    by_cases h1 : most < 1
    · have d1 : decide (most < 1) = true := by simpa using h1
      have HV := Lib.hid (show edenV u most = .tuple #[.string ⟨#[]⟩, .int .i64 2] by unfold edenV; rw [if_neg (by omega)])
      clear hu h1
      simp only [hd]
      go_wp2_with fail
      go_ret2
      rw [HV.out]
      exact ⟨rfl, Chg.refl _ _⟩
    · have d1 : decide (most < 1) = false := by simpa using h1
      by_cases h2 : 20 < most
      · have d2 : decide (20 < most) = true := by simpa using h2
        have HV := Lib.hid (show edenV u most = .tuple #[.string ⟨#[]⟩, .int .i64 2] by unfold edenV; rw [if_neg (by omega)])
        clear hu h1 h2
        simp only [hd]
        go_wp2_with fail
        go_ret2
        rw [HV.out]
        exact ⟨rfl, Chg.refl _ _⟩
      · have d2 : decide (20 < most) = false := by simpa using h2
        have HV := Lib.hid (show edenV u most = (match orphV u.toNat (some most.toNat) with | some l => .tuple #[.string (txt l), .int .i64 0] | none => .tuple #[.string ⟨#[]⟩, .int .i64 10]) by unfold edenV; rw [if_pos (by omega)]; rfl)
        obtain ⟨n, rfl, hn⟩ := of_rule hu
        obtain ⟨m, rfl⟩ : ∃ m : Nat, most = m := ⟨most.toNat, by omega⟩
        have hm20 : m ≤ 20 := by omega
        clear hu h1 h2
        simp only [hd]
        go_wp2_with fail
        refine (rorphan_any n hn _).mono ?_
        rintro e w2 ⟨rfl, hc⟩
        have HC := Lib.hid hc
        clear hc
        simp only [Int.toNat_natCast] at HV
        rw [orph_eq hn hm20] at HV
        cases ho : rorphV n with
        | none =>
          rw [ho] at HV
          have HV2 : Hid (edenV (n : Int) (m : Int) = .tuple #[.string ⟨#[]⟩, .int .i64 10]) := Lib.hid HV.out
          unfold rorphR
          go_wp2_with fail
          go_ret2
          rw [HV2.out]
          exact ⟨rfl, HC.out⟩
        | some l =>
          rw [ho] at HV
          have hsz := txt_size l
          by_cases hl : l.length ≤ m
          · have dl : decide (m < l.length) = false := by simpa using hl
            have HV2 : Hid (edenV (n : Int) (m : Int) = .tuple #[.string (txt l), .int .i64 0]) := Lib.hid (by rw [HV.out]; unfold cutO; simp only [if_pos hl])
            unfold rorphR
            clear hl ho
            go_wp2_with fail
            go_ret2
            rw [HV2.out]
            exact ⟨rfl, HC.out⟩
          · have dl : decide (m < l.length) = true := by simpa using hl
            have HV2 : Hid (edenV (n : Int) (m : Int) = .tuple #[.string ⟨#[]⟩, .int .i64 10]) := Lib.hid (by rw [HV.out]; unfold cutO; simp only [if_neg hl])
            unfold rorphR
            clear hl ho
            go_wp2_with fail
            go_ret2
            rw [HV2.out]
            exact ⟨rfl, HC.out⟩
  · have hd : decide (0 ≤ u ∧ u ≤ 255) = false := by simpa using hu
    have HV := Lib.hid (show edenV u most = .tuple #[.string ⟨#[]⟩, .int .i64 2] by unfold edenV; rw [if_neg (fun h => hu h.1)])
    clear hu
    simp only [hd]
    go_wp2_with fail
    go_ret2
    rw [HV.out]
    exact ⟨rfl, Chg.refl _ _⟩
end Go.Proofs.YtdopmafhdhahiaaDoor
