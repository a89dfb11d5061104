/- The walk of the statement TurnRounds: it returns true and changes nothing that was there. Its conditions are its premises. -/
import Derived.Test.YtgamekcjjpjnnaaA29
import Derived.Test.YtgamekcjjpjnnaaL1
set_option linter.unusedVariables false
namespace Go.Proofs.Ytgamekcjjpjnnaa
open Go.RowKit

set_option maxRecDepth 100000 in
set_option maxHeartbeats 1000000 in
theorem rounds_law (t n : Int) (l : List Sp) (a : Option Addr) (cap b off : Nat) (X : List Int) (ax : Option Addr) (cx bx ox : Nat) (R : List Int) (ar : Option Addr) (cr br or_ : Nat) (w : World) (_ : (Lit.int .i64 t).wf = true) (_ : (Lit.int .i64 n).wf = true)
    (hs : SpansAt w b off l) (ha : l = [] ∨ a = some ⟨b, off, none⟩) (_ : ∀ s ∈ l, s.I64) (hX : IntsAt w bx ox X) (hax : X = [] ∨ ax = some ⟨bx, ox, none⟩) (_ : ∀ x ∈ X, I64 x) (hR : IntsAt w br or_ R) (har : R = [] ∨ ar = some ⟨br, or_, none⟩) (hI : ∀ x ∈ R, I64 x) :
    Calls Try.prog 14 #[.int .i64 t, .int .i64 n, .slice a l.length cap, .slice ax X.length cx, .slice ar R.length cr] w (TPost w) := by
  have HS := Lib.hid hs; have HA := Lib.hid ha; have HX := Lib.hid hX; have HAX := Lib.hid hax; have HR := Lib.hid hR; have HAR := Lib.hid har; have HI := Lib.hid hI
  clear hs ha hX hax hR har hI
  by_cases hf : l.length ≤ 40 ∧ X.length ≤ 40 ∧ R.length ≤ 40
  · have d40 : decide (l.length ≤ 40 ∧ X.length ≤ 40 ∧ R.length ≤ 40) = true := by rw [decide_eq_true_eq]; exact hf
    obtain ⟨_, hXl, hRl⟩ := hf
    go_enter Try.func14, Try.ntmps14
    go_wp2_with fail
    refine (few_any a ax ar l.length X.length R.length cap cx cr w).mono ?_
    rw [d40]
    rintro e w' ⟨rfl, rfl⟩
    go_wp2_with fail
    refine (Rounds_any t n l a cap b off X ax cx bx ox R ar cr br or_ w' HS.out HA.out HX.out HAX.out hXl HR.out HAR.out hRl).mono ?_
    obtain ⟨r1, r2, hr⟩ : ∃ r1 r2, roundsE t n l X R = (r1, r2) := ⟨_, _, rfl⟩
    rw [hr]
    rintro e w1 ⟨rfl, hc1⟩
    have HRR := Lib.hid hr; have HC1 := Lib.hid hc1
    clear hr hc1
    go_wp2_with fail
    refine (rRounds_any t n l a cap b off X ax cx bx ox R ar cr br or_ w1 (HS.out.chg HC1.out (fun x => x)) HA.out (HX.out.chg HC1.out (fun x => x)) HAX.out hXl (HR.out.chg HC1.out (fun x => x)) HAR.out hRl HI.out).mono ?_
    rw [HRR.out]
    rintro e w2 ⟨rfl, hc2⟩
    have HC2 := Lib.hid (HC1.out.trans hc2 (fun _ x => x.elim))
    clear hc2
    go_wp2_with fail
    refine (Free_any t n l a cap b off w2 (HS.out.chg HC2.out (fun x => x)) HA.out).mono ?_
    obtain ⟨f1, f2, hf⟩ : ∃ f1 f2, freeE t n l = (f1, f2) := ⟨_, _, rfl⟩
    rw [hf]
    rintro e w3 ⟨rfl, hc3⟩
    have HFF := Lib.hid hf; have HC3 := Lib.hid (HC2.out.trans hc3 (fun _ x => x.elim))
    clear hf hc3
    go_wp2_with fail
    refine (rFree_any t n l a cap b off w3 (HS.out.chg HC3.out (fun x => x)) HA.out).mono ?_
    rw [HFF.out]
    rintro e w4 ⟨rfl, hc4⟩
    have HC4 := Lib.hid (HC3.out.trans hc4 (fun _ x => x.elim))
    clear hc4
    go_wp2_with fail
    refine (alive_any _).mono ?_
    rintro e w6 ⟨rfl, hc6⟩
    have HC6 := Lib.hid (HC4.out.trans hc6 (fun _ x => x.elim))
    clear hc6
    go_wp2_with fail
    go_ret
    exact ⟨rfl, HC6.out⟩
  · have d40 : decide (l.length ≤ 40 ∧ X.length ≤ 40 ∧ R.length ≤ 40) = false := by rw [decide_eq_false_iff_not]; exact hf
    clear hf
    go_enter Try.func14, Try.ntmps14
    go_wp2_with fail
    refine (few_any a ax ar l.length X.length R.length cap cx cr w).mono ?_
    rw [d40]
    rintro e w' ⟨rfl, rfl⟩
    go_wp2_with fail
    refine (alive_any w').mono ?_
    rintro e w1 ⟨rfl, hc⟩
    go_wp2_with fail
    go_ret
    exact ⟨rfl, hc⟩
end Go.Proofs.Ytgamekcjjpjnnaa
