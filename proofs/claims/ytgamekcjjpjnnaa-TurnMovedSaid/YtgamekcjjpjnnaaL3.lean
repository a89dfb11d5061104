/- The walk of the statement TurnIs: it returns true and changes nothing that was there. Its conditions are its premises. -/
import Derived.Test.YtgamekcjjpjnnaaA26
import Derived.Test.YtgamekcjjpjnnaaL1
set_option linter.unusedVariables false
namespace Go.Proofs.Ytgamekcjjpjnnaa
open Go.RowKit

theorem slackE_len (t n : Int) (l : List Sp) (X : List Int) : (slackE t n l X).1.length ≤ 1000 := by
  by_cases h : spansE t n l = 0
  · have := (valid_of h).len
    by_cases h2 : inHours t n X
    · rw [slackE_ok h h2]; simp; omega
    · rw [slackE_bad h h2]; simp
  · rw [slackE_err h]; simp

set_option maxRecDepth 100000 in
set_option maxHeartbeats 1000000 in
theorem is_law (t n : Int) (l : List Sp) (a : Option Addr) (cap b off : Nat) (X : List Int) (ar : Option Addr) (cr br or_ : Nat) (w : World) (_ : (Lit.int .i64 t).wf = true) (_ : (Lit.int .i64 n).wf = true)
    (hs : SpansAt w b off l) (ha : l = [] ∨ a = some ⟨b, off, none⟩) (_ : ∀ s ∈ l, s.I64) (hR : IntsAt w br or_ X) (har : X = [] ∨ ar = some ⟨br, or_, none⟩) (hI : ∀ x ∈ X, I64 x) :
    Calls Try.prog 9 #[.int .i64 t, .int .i64 n, .slice a l.length cap, .slice ar X.length cr] w (TPost w) := by
  have HS := Lib.hid hs; have HA := Lib.hid ha; have HR := Lib.hid hR; have HAR := Lib.hid har
  clear hs ha hR har hI
  by_cases hf : l.length ≤ 40 ∧ X.length ≤ 40
  · have d40 : decide (l.length ≤ 40 ∧ X.length ≤ 40 ∧ 0 ≤ 40) = true := by rw [decide_eq_true_eq]; omega
    have hl : X.length ≤ 1000 := by omega
    clear hf
    go_enter Try.func9, Try.ntmps9
    go_wp2_with fail
    refine (few_any a ar none l.length X.length 0 cap cr 0 w).mono ?_
    rw [d40]
    rintro e w' ⟨rfl, rfl⟩
    go_wp2_with fail
    refine (Is_any t n l a cap b off X ar cr br or_ w' HS.out HA.out HR.out HAR.out hl).mono ?_
    rintro e w1 ⟨rfl, hc1⟩
    have HC1 := Lib.hid hc1
    obtain ⟨b1, hb1⟩ : ∃ b1, decide (spansE t n l = 0 ∧ planP t n l X) = b1 := ⟨_, rfl⟩
    rw [hb1]
    have HB1 := Lib.hid hb1
    clear hb1 hc1
    go_wp2_with fail
    refine (rIs_any t n l a cap b off X ar cr br or_ w1 (HS.out.chg HC1.out (fun x => x)) HA.out (HR.out.chg HC1.out (fun x => x)) HAR.out hl).mono ?_
    rintro e w2 ⟨rfl, hc2⟩
    rw [HB1.out]
    have HC2 := Lib.hid (HC1.out.trans hc2 (fun _ x => x.elim))
    clear hc2
    go_wp2_with fail
    refine (Slack_any t n l a cap b off X ar cr br or_ w2 (HS.out.chg HC2.out (fun x => x)) HA.out (HR.out.chg HC2.out (fun x => x)) HAR.out hl).mono ?_
    have hlen := slackE_len t n l X
    obtain ⟨L, E, hLE⟩ : ∃ L E, slackE t n l X = (L, E) := ⟨_, _, rfl⟩
    rw [hLE] at hlen ⊢
    rintro e w3 ⟨ao, c, g, rfl, hg, hI, hc3⟩
    have HLE := Lib.hid hLE; have HG := Lib.hid hg; have HI := Lib.hid hI; have HC3 := Lib.hid (HC2.out.trans hc3 (fun _ x => x.elim)); have HLN := Lib.hid hlen
    clear hLE hg hI hc3 hlen
    go_wp2_with fail
    refine (rSlack_any t n l a cap b off X ar cr br or_ w3 (HS.out.chg HC3.out (fun x => x)) HA.out (HR.out.chg HC3.out (fun x => x)) HAR.out hl).mono ?_
    rw [HLE.out]
    rintro e w4 ⟨ao2, c2, g2, rfl, hg2, hI2, hc4⟩
    have HG2 := Lib.hid hg2; have HI2 := Lib.hid hI2; have HC4 := Lib.hid (HC3.out.trans hc4 (fun _ x => x.elim)); have HI1 := Lib.hid (HI.out.chg hc4 (fun x => x))
    clear hg2 hI2 hc4
    go_wp2_with fail
    refine (same_any L L ao ao2 g 0 g2 0 c c2 w4 HI1.out HI2.out HG.out HG2.out HLN.out HLN.out).mono ?_
    rintro e w5 ⟨rfl, x, rfl⟩
    have HC5 := Lib.hid (HC4.out.grow x)
    rw [show decide (L = L) = true by simp]
    go_wp2_with fail
    refine (alive_any _).mono ?_
    rintro e w6 ⟨rfl, hc6⟩
    have HC6 := Lib.hid (HC5.out.trans hc6 (fun _ x => x.elim))
    clear hc6
    go_wp2_with fail
    go_ret
    exact ⟨rfl, HC6.out⟩
  · have d40 : decide (l.length ≤ 40 ∧ X.length ≤ 40 ∧ 0 ≤ 40) = false := by rw [decide_eq_false_iff_not]; omega
    clear hf
    go_enter Try.func9, Try.ntmps9
    go_wp2_with fail
    refine (few_any a ar none l.length X.length 0 cap cr 0 w).mono ?_
    rw [d40]
    rintro e w' ⟨rfl, rfl⟩
    go_wp2_with fail
    refine (alive_any w').mono ?_
    rintro e w1 ⟨rfl, hc⟩
    go_wp2_with fail
    go_ret
    exact ⟨rfl, hc⟩
end Go.Proofs.Ytgamekcjjpjnnaa
