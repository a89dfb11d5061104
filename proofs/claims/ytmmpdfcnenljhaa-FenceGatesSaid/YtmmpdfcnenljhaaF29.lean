/- The law FenceGates, walked. Its conditions are its premises. -/
import Derived.Test.YtmmpdfcnenljhaaF28
set_option linter.unusedVariables false
namespace Go.Proofs.Ytmmpdfcnenljhaa
open Go.RowKit

theorem gates_same {n : Int} {l : List Fe} (hl : gardenE n l = 0 → l.length ≤ 10) {r : Int × Int × Int} (h : gatesE n l r) : r = ((valueE n l 2 0).1, (valueE n l 0 2).1, gardenE n l) := by
  rcases h with ⟨h0, rfl⟩ | ⟨h0, rfl⟩
  · rw [valueE_err h0, valueE_err h0]
  · have hv := valid_of h0
    obtain ⟨N, rfl⟩ : ∃ N : Nat, n = N := ⟨n.toNat, by have := hv.n1; omega⟩
    obtain ⟨h1, h2⟩ := gates_value h0 (hl h0)
    rw [h1, h2, h0]

set_option maxRecDepth 100000 in
set_option maxHeartbeats 2000000 in
theorem law_gates (n : Int) (l : List Fe) (a : Option Addr) (cap b off : Nat) (w : World) (hs : FencesAt w b off l) (ha : l = [] ∨ a = some ⟨b, off, none⟩) :
    Calls Try.prog 5 #[.int .i64 n, .slice a l.length cap] w (Yes w) := by
  have HS := Lib.hid hs; have HA := Lib.hid ha
  clear hs ha
  by_cases hl : l.length ≤ 40
  · by_cases hm : 10 < l.length ∧ l.length ≤ 14
    · obtain ⟨hm1, hm2⟩ := hm
      have d1 : decide (10 < (l.length : Int)) = true := by rw [decide_eq_true_eq]; omega
      have d2 : decide ((l.length : Int) ≤ 14) = true := by rw [decide_eq_true_eq]; omega
      go_enter Try.func5, Try.ntmps5
      go_wp2_with fail
      refine (few_any a l.length cap w).mono ?_
      rintro e w1 ⟨rfl, rfl⟩
      rw [decide_eq_true hl]
      go_wp2_with fail
      refine (alive_any w1).mono ?_
      rintro e w7 ⟨rfl, hc7⟩
      have HC7 := Lib.hid hc7
      clear hc7
      go_wp2_with fail
      go_ret
      exact ⟨rfl, HC7.out⟩
    · have HL10 : Hid (gardenE n l = 0 → l.length ≤ 10) := Lib.hid fun h => by have := (valid_of h).len; omega
      have HG := Lib.hid (fun r (h : gatesE n l r) => gates_same HL10.out h)
      obtain ⟨x, hx⟩ : ∃ x, (valueE n l 2 0).1 = x := ⟨_, rfl⟩
      obtain ⟨y, hy⟩ : ∃ y, (valueE n l 0 2).1 = y := ⟨_, rfl⟩
      obtain ⟨z, hz⟩ : ∃ z, gardenE n l = z := ⟨_, rfl⟩
      have HGA := Lib.hid (fun w hs => Gates_any n l a cap b off w hs HA.out HL10.out)
      simp only [hx, hy] at HG HGA
      have HZ := Lib.hid hz
      clear hx hy hz
      go_enter Try.func5, Try.ntmps5
      go_wp2_with fail
      refine (few_any a l.length cap w).mono ?_
      rintro e w1 ⟨rfl, rfl⟩
      rw [decide_eq_true hl]
      have hcs : decide (10 < (l.length : Int)) = false ∨ (decide (10 < (l.length : Int)) = true ∧ decide ((l.length : Int) ≤ 14) = false) := by
        by_cases h1 : 10 < l.length
        · right
          exact ⟨by rw [decide_eq_true_eq]; omega, by rw [decide_eq_false_iff_not]; omega⟩
        · left
          rw [decide_eq_false_iff_not]; omega
      rcases hcs with d1 | ⟨d1, d2⟩
      all_goals
        clear hm
        go_wp2_with fail
        refine (HGA.out w1 HS.out).mono ?_
        rintro e w2 ⟨rfl, hc2⟩
        have HC2 := Lib.hid hc2
        rw [HZ.out]
        clear hc2
        go_wp2_with fail
        refine (rGates_any n l a cap b off w2 (HS.out.chg HC2.out (fun x => x)) HA.out).mono ?_
        rintro e w3 ⟨r, hr, rfl, hc3⟩
        obtain rfl := HG.out r hr
        have HC3 := Lib.hid (HC2.out.trans hc3 (fun _ x => x.elim))
        rw [HZ.out]
        clear hr hc3 HC2
        go_wp2_with fail
        refine (alive_any w3).mono ?_
        rintro e w7 ⟨rfl, hc7⟩
        have HC7 := Lib.hid (HC3.out.trans hc7 (fun _ x => x.elim))
        clear hc7
        go_wp2_with fail
        go_ret
        exact ⟨rfl, HC7.out⟩
  · go_enter Try.func5, Try.ntmps5
    go_wp2_with fail
    refine (few_any a l.length cap w).mono ?_
    rintro e w1 ⟨rfl, rfl⟩
    rw [decide_eq_false hl]
    clear hl
    go_wp2_with fail
    refine (alive_any w1).mono ?_
    rintro e w7 ⟨rfl, hc7⟩
    have HC7 := Lib.hid hc7
    clear hc7
    go_wp2_with fail
    go_ret
    exact ⟨rfl, HC7.out⟩
end Go.Proofs.Ytmmpdfcnenljhaa
