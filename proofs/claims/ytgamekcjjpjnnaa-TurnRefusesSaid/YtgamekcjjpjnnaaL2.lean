/- The walk of the statement TurnRefuses: it returns true and changes nothing that was there. Its conditions are its premises. -/
import Derived.Test.YtgamekcjjpjnnaaA21
import Derived.Test.YtgamekcjjpjnnaaL1
set_option linter.unusedVariables false
namespace Go.Proofs.Ytgamekcjjpjnnaa
open Go.RowKit

set_option maxRecDepth 100000 in
set_option maxHeartbeats 1000000 in
theorem refuses_law (t n : Int) (l : List Sp) (a : Option Addr) (cap b off : Nat) (R : List Int) (ar : Option Addr) (cr br or_ : Nat) (w : World) (_ : (Lit.int .i64 t).wf = true) (_ : (Lit.int .i64 n).wf = true)
    (hs : SpansAt w b off l) (ha : l = [] ∨ a = some ⟨b, off, none⟩) (_ : ∀ s ∈ l, s.I64) (hR : IntsAt w br or_ R) (har : R = [] ∨ ar = some ⟨br, or_, none⟩) (hI : ∀ x ∈ R, I64 x) :
    Calls Try.prog 7 #[.int .i64 t, .int .i64 n, .slice a l.length cap, .slice ar R.length cr] w (TPost w) := by
  have HS := Lib.hid hs; have HA := Lib.hid ha; have HR := Lib.hid hR; have HAR := Lib.hid har; have HI := Lib.hid hI
  clear hs ha hR har hI
  by_cases hf : l.length ≤ 40 ∧ R.length ≤ 40
  · have d40 : decide (l.length ≤ 40 ∧ R.length ≤ 40 ∧ 0 ≤ 40) = true := by rw [decide_eq_true_eq]; omega
    have hR40 := hf.2
    clear hf
    go_enter Try.func7, Try.ntmps7
    go_wp2_with fail
    refine (few_any a ar none l.length R.length 0 cap cr 0 w).mono ?_
    rw [d40]
    rintro e w' ⟨rfl, rfl⟩
    go_wp2_with fail
    refine (Refuses_any t n l a cap R ar cr w' b off br or_ HS.out HA.out HR.out HAR.out hR40).mono ?_
    rintro e w1 ⟨b1, rfl, hb1, hc1⟩
    have HB1 := Lib.hid hb1; have HC1 := Lib.hid hc1
    clear hb1 hc1
    go_wp2_with fail
    refine (rRefuses_any t n l a cap R ar cr w1 b off br or_ (HS.out.chg HC1.out (fun x => x)) HA.out (HR.out.chg HC1.out (fun x => x)) HAR.out HI.out).mono ?_
    rintro e w2 ⟨b2, rfl, hb2, hc2⟩
    have HC2 := Lib.hid (HC1.out.trans hc2 (fun _ x => x.elim))
    obtain rfl : b1 = b2 := by rw [Bool.eq_iff_iff, HB1.out, hb2]
    clear hb2 hc2
    go_wp2_with fail
    refine (alive_any _).mono ?_
    rintro e w4 ⟨rfl, hc4⟩
    have HC4 := Lib.hid (HC2.out.trans hc4 (fun _ x => x.elim))
    clear hc4
    go_wp2_with fail
    go_ret
    exact ⟨rfl, HC4.out⟩
  · have d40 : decide (l.length ≤ 40 ∧ R.length ≤ 40 ∧ 0 ≤ 40) = false := by rw [decide_eq_false_iff_not]; omega
    clear hf
    go_enter Try.func7, Try.ntmps7
    go_wp2_with fail
    refine (few_any a ar none l.length R.length 0 cap cr 0 w).mono ?_
    rw [d40]
    rintro e w' ⟨rfl, rfl⟩
    go_wp2_with fail
    refine (alive_any w').mono ?_
    rintro e w1 ⟨rfl, hc⟩
    go_wp2_with fail
    go_ret
    exact ⟨rfl, hc⟩
end Go.Proofs.Ytgamekcjjpjnnaa
