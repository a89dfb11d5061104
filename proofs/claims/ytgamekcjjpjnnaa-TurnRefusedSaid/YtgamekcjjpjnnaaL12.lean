/- The walk of the statement TurnRefused: it returns true and changes nothing that was there. Its conditions are its premises. -/
import Derived.Test.YtgamekcjjpjnnaaM17
import Derived.Test.YtgamekcjjpjnnaaM10
import Derived.Test.YtgamekcjjpjnnaaA29
import Derived.Test.YtgamekcjjpjnnaaL1
set_option linter.unusedVariables false
namespace Go.Proofs.Ytgamekcjjpjnnaa
open Go.RowKit

set_option maxRecDepth 100000 in
set_option maxHeartbeats 4000000 in
theorem refused_walk (t n : Int) (l : List Sp) (a : Option Addr) (cap b off : Nat) (X : List Int) (ar : Option Addr) (cr br or_ : Nat) (w : World) (_ : (Lit.int .i64 t).wf = true) (_ : (Lit.int .i64 n).wf = true)
    (hs : SpansAt w b off l) (ha : l = [] ∨ a = some ⟨b, off, none⟩) (_ : ∀ s ∈ l, s.I64) (hR : IntsAt w br or_ X) (har : X = [] ∨ ar = some ⟨br, or_, none⟩) (hI : ∀ x ∈ X, I64 x) :
    Calls Try.prog 11 #[.int .i64 t, .int .i64 n, .slice a l.length cap, .slice ar X.length cr] w (TPost w) := by
  have HS := Lib.hid hs; have HA := Lib.hid ha; have HR := Lib.hid hR; have HAR := Lib.hid har
  clear hs ha hR har hI
  by_cases hf : l.length ≤ 40 ∧ X.length ≤ 40
  · have d40 : decide (l.length ≤ 40 ∧ X.length ≤ 40 ∧ 0 ≤ 40) = true := by rw [decide_eq_true_eq]; omega
    have hl : X.length ≤ 40 := by omega
    clear hf
    go_enter Try.func11, Try.ntmps11
    go_wp2_with fail
    refine (few_any a ar none l.length X.length 0 cap cr 0 w).mono ?_
    rw [d40]
    rintro e w' ⟨rfl, rfl⟩
    clear d40
    go_wp2_with fail
    refine (Plan_any t n l a cap w' b off HS.out HA.out).mono ?_
    have hpl := plan_len t n l
    obtain ⟨P, E, hPE⟩ : ∃ P E, planE t n l = (P, E) := ⟨_, _, rfl⟩
    rw [hPE] at hpl ⊢
    rintro e W2 ⟨ao2, c2, g2, rfl, _, _, hc2⟩
    have HC2 := Lib.hid hc2; have HPE := Lib.hid hPE
    dsimp only at hpl
    clear hPE hc2
    go_wp2_with fail
    refine (Refuses_any t n l a cap X ar cr W2 b off br or_ (HS.out.chg HC2.out (fun x => x)) HA.out (HR.out.chg HC2.out (fun x => x)) HAR.out hl).mono ?_
    rintro e W3 ⟨bb, rfl, hbb, hc3⟩
    have HC3 := Lib.hid (HC2.out.trans hc3 (fun _ x => x.elim)); have HB := Lib.hid hbb
    clear hbb hc3
    go_wp2_with fail
    refine (Free_any t n l a cap b off W3 (HS.out.chg HC3.out (fun x => x)) HA.out).mono ?_
    rintro e W4 ⟨rfl, hc4⟩
    have HC4 := Lib.hid (HC3.out.trans hc4 (fun _ x => x.elim))
    clear hc4
    by_cases h0 : spansE t n l = 0
    · have hv := valid_of h0
      obtain ⟨T, rfl⟩ : ∃ T : Nat, t = T := ⟨t.toNat, by have := hv.t1; omega⟩
      obtain ⟨N, rfl⟩ : ∃ N : Nat, n = N := ⟨n.toNat, by have := hv.n1; omega⟩
      have ht1 := hv.t1; have ht2 := hv.t2; have hn1 := hv.n1; have hn2 := hv.n2; have hl20 := hv.len
      have hfr := freeE_cnt h0
      obtain ⟨K, hK⟩ : ∃ K, cnt N l l.length = K := ⟨_, rfl⟩
      rw [hK] at hfr
      rw [h0, hfr]
      have hcode := planE_code h0
      have hpe := HPE.out
      rw [hpe] at hcode
      dsimp only at hcode
      have HFZ := Lib.hid (free_zero hv)
      have HCODE := Lib.hid hcode
      have HK := Lib.hid hK; have H0 := Lib.hid h0; have HV := Lib.hid hv
      clear h0 hv hfr hK hpe HPE hcode
      go_wp2_with fail
      refine (spans_any T N l a cap W4 b off (HS.out.chg HC4.out (fun x => x)) HA.out).mono ?_
      rw [H0.out]
      rintro e W5 ⟨rfl, x, rfl⟩
      have HC5 := Lib.hid (HC4.out.grow x)
      generalize W4.grow x = W5 at HC5 ⊢
      have hcode := HCODE.out
      clear HCODE
      by_cases hpn : plans T N l = []
      · rw [if_pos hpn] at hcode
        subst hcode
        have HPL := Lib.hid hpn
        clear hpn
        have hK0 : K ≠ 0 := fun h => HFZ.out (by rw [HK.out]; exact h) HPL.out
        have dk0 : ((K : Int) == 0) = false := by rw [beq_eq_false_iff_ne]; omega
        cases bb with
        | true =>
          by_cases hn4 : 4 < N
          · have dn : decide (4 < (N : Int)) = true := by rw [decide_eq_true_eq]; omega
            have dn' : decide (4 < N) = true := by rw [decide_eq_true_eq]; omega
            by_cases hl10 : 10 < l.length
            · have dl : decide (10 < (l.length : Int)) = true := by rw [decide_eq_true_eq]; omega
              have HCX := HC5
              go_wp2_with fail
              refine (alive_any _).mono ?_
              rintro e w9 ⟨rfl, hc9⟩
              have HC9 := Lib.hid (HCX.out.trans hc9 (fun _ x => x.elim))
              clear hc9
              go_wp2_with fail
              go_ret
              exact ⟨rfl, HC9.out⟩
            · have dl : decide (10 < (l.length : Int)) = false := by rw [decide_eq_false_iff_not]; omega
              obtain ⟨Rr, Hh, hRH⟩ : ∃ R H, ringE (T : Int) (N : Int) l = (R, H) := ⟨_, _, rfl⟩
              have HRA := Lib.hid (by have := Ring_any T N l a cap W5 b off (HS.out.chg HC5.out (fun x => x)) HA.out; rwa [hRH] at this)
              have hsnd := ringE_sound H0.out
              rw [hRH] at hsnd
              have HRH := Lib.hid hRH
              clear hRH
              rcases hsnd with ⟨h10, hnil⟩ | ⟨hz, hri, hrf⟩
              · dsimp only at h10 hnil
                subst h10
                subst hnil
                have HRG := HRH
                exfalso
                obtain ⟨h1, h2⟩ := (refP_iff H0.out).1 (HB.out.1 rfl)
                have := ringE_finds H0.out h1 h2
                rw [HRG.out] at this
                cases this
              · dsimp only at hz hri hrf
                subst hz
                have hrl : Rr.length ≤ 40 := by have := hri.2.1; omega
                have HRI := Lib.hid hri; have HRF := Lib.hid hrf
                clear hri hrf
                go_wp2_with fail
                refine HRA.out.mono ?_
                rintro e W6 ⟨ao6, c6, g6, rfl, hg6, hI6, hc6⟩
                have HC6 := Lib.hid (HC5.out.trans hc6 (fun _ x => x.elim))
                have HG6 := Lib.hid hg6; have HI6 := Lib.hid hI6
                clear hg6 hI6 hc6
                go_wp2_with fail
                refine (Refuses_any T N l a cap Rr ao6 c6 W6 b off g6 0 (HS.out.chg HC6.out (fun x => x)) HA.out HI6.out HG6.out hrl).mono ?_
                rintro e W7 ⟨b7, rfl, hb7, hc7⟩
                rw [H0.out]
                obtain rfl : b7 = true := hb7.2 ((refP_iff H0.out).2 ⟨HRI.out, HRF.out⟩)
                have HCX := Lib.hid (HC6.out.trans hc7 (fun _ x => x.elim))
                clear hb7 hc7
                go_wp2_with fail
                refine (alive_any _).mono ?_
                rintro e w9 ⟨rfl, hc9⟩
                have HC9 := Lib.hid (HCX.out.trans hc9 (fun _ x => x.elim))
                clear hc9
                go_wp2_with fail
                go_ret
                exact ⟨rfl, HC9.out⟩
          · have dn : decide (4 < (N : Int)) = false := by rw [decide_eq_false_iff_not]; omega
            have dn' : decide (4 < N) = false := by rw [decide_eq_false_iff_not]; omega
            obtain ⟨Rr, Hh, hRH⟩ : ∃ R H, ringE (T : Int) (N : Int) l = (R, H) := ⟨_, _, rfl⟩
            have HRA := Lib.hid (by have := Ring_any T N l a cap W5 b off (HS.out.chg HC5.out (fun x => x)) HA.out; rwa [hRH] at this)
            have hsnd := ringE_sound H0.out
            rw [hRH] at hsnd
            have HRH := Lib.hid hRH
            clear hRH
            rcases hsnd with ⟨h10, hnil⟩ | ⟨hz, hri, hrf⟩
            · dsimp only at h10 hnil
              subst h10
              subst hnil
              have HRG := HRH
              exfalso
              obtain ⟨h1, h2⟩ := (refP_iff H0.out).1 (HB.out.1 rfl)
              have := ringE_finds H0.out h1 h2
              rw [HRG.out] at this
              cases this
            · dsimp only at hz hri hrf
              subst hz
              have hrl : Rr.length ≤ 40 := by have := hri.2.1; omega
              have HRI := Lib.hid hri; have HRF := Lib.hid hrf
              clear hri hrf
              go_wp2_with fail
              refine HRA.out.mono ?_
              rintro e W6 ⟨ao6, c6, g6, rfl, hg6, hI6, hc6⟩
              have HC6 := Lib.hid (HC5.out.trans hc6 (fun _ x => x.elim))
              have HG6 := Lib.hid hg6; have HI6 := Lib.hid hI6
              clear hg6 hI6 hc6
              go_wp2_with fail
              refine (Refuses_any T N l a cap Rr ao6 c6 W6 b off g6 0 (HS.out.chg HC6.out (fun x => x)) HA.out HI6.out HG6.out hrl).mono ?_
              rintro e W7 ⟨b7, rfl, hb7, hc7⟩
              rw [H0.out]
              obtain rfl : b7 = true := hb7.2 ((refP_iff H0.out).2 ⟨HRI.out, HRF.out⟩)
              have HCX := Lib.hid (HC6.out.trans hc7 (fun _ x => x.elim))
              clear hb7 hc7
              go_wp2_with fail
              refine (alive_any _).mono ?_
              rintro e w9 ⟨rfl, hc9⟩
              have HC9 := Lib.hid (HCX.out.trans hc9 (fun _ x => x.elim))
              clear hc9
              go_wp2_with fail
              go_ret
              exact ⟨rfl, HC9.out⟩
        | false =>
          by_cases hn4 : 4 < N
          · have dn : decide (4 < (N : Int)) = true := by rw [decide_eq_true_eq]; omega
            have dn' : decide (4 < N) = true := by rw [decide_eq_true_eq]; omega
            by_cases hl10 : 10 < l.length
            · have dl : decide (10 < (l.length : Int)) = true := by rw [decide_eq_true_eq]; omega
              have HCX := HC5
              go_wp2_with fail
              refine (alive_any _).mono ?_
              rintro e w9 ⟨rfl, hc9⟩
              have HC9 := Lib.hid (HCX.out.trans hc9 (fun _ x => x.elim))
              clear hc9
              go_wp2_with fail
              go_ret
              exact ⟨rfl, HC9.out⟩
            · have dl : decide (10 < (l.length : Int)) = false := by rw [decide_eq_false_iff_not]; omega
              obtain ⟨Rr, Hh, hRH⟩ : ∃ R H, ringE (T : Int) (N : Int) l = (R, H) := ⟨_, _, rfl⟩
              have HRA := Lib.hid (by have := Ring_any T N l a cap W5 b off (HS.out.chg HC5.out (fun x => x)) HA.out; rwa [hRH] at this)
              have hsnd := ringE_sound H0.out
              rw [hRH] at hsnd
              have HRH := Lib.hid hRH
              clear hRH
              rcases hsnd with ⟨h10, hnil⟩ | ⟨hz, hri, hrf⟩
              · dsimp only at h10 hnil
                subst h10
                subst hnil
                have HRG := HRH
                go_wp2_with fail
                refine HRA.out.mono ?_
                rintro e W6 ⟨ao6, c6, g6, rfl, _, _, hc6⟩
                have HC6 := Lib.hid (HC5.out.trans hc6 (fun _ x => x.elim))
                clear hc6
                by_cases hK1 : K = 1
                · exfalso
                  refine free_one HV.out (by rw [HK.out]; exact hK1) (fun R h1 h2 => ?_) HPL.out
                  have := ringE_finds H0.out h1 h2
                  rw [HRG.out] at this
                  cases this
                · have dk1 : ((K : Int) != 1) = true := by rw [bne_iff_ne]; omega
                  have HCX := HC6
                  clear hK1
                  go_wp2_with fail
                  refine (alive_any _).mono ?_
                  rintro e w9 ⟨rfl, hc9⟩
                  have HC9 := Lib.hid (HCX.out.trans hc9 (fun _ x => x.elim))
                  clear hc9
                  go_wp2_with fail
                  go_ret
                  exact ⟨rfl, HC9.out⟩
              · dsimp only at hz hri hrf
                subst hz
                have hrl : Rr.length ≤ 40 := by have := hri.2.1; omega
                have HRI := Lib.hid hri; have HRF := Lib.hid hrf
                clear hri hrf
                go_wp2_with fail
                refine HRA.out.mono ?_
                rintro e W6 ⟨ao6, c6, g6, rfl, hg6, hI6, hc6⟩
                have HC6 := Lib.hid (HC5.out.trans hc6 (fun _ x => x.elim))
                have HG6 := Lib.hid hg6; have HI6 := Lib.hid hI6
                clear hg6 hI6 hc6
                go_wp2_with fail
                refine (Refuses_any T N l a cap Rr ao6 c6 W6 b off g6 0 (HS.out.chg HC6.out (fun x => x)) HA.out HI6.out HG6.out hrl).mono ?_
                rintro e W7 ⟨b7, rfl, hb7, hc7⟩
                rw [H0.out]
                obtain rfl : b7 = true := hb7.2 ((refP_iff H0.out).2 ⟨HRI.out, HRF.out⟩)
                have HCX := Lib.hid (HC6.out.trans hc7 (fun _ x => x.elim))
                clear hb7 hc7
                go_wp2_with fail
                refine (alive_any _).mono ?_
                rintro e w9 ⟨rfl, hc9⟩
                have HC9 := Lib.hid (HCX.out.trans hc9 (fun _ x => x.elim))
                clear hc9
                go_wp2_with fail
                go_ret
                exact ⟨rfl, HC9.out⟩
          · have dn : decide (4 < (N : Int)) = false := by rw [decide_eq_false_iff_not]; omega
            have dn' : decide (4 < N) = false := by rw [decide_eq_false_iff_not]; omega
            obtain ⟨Rr, Hh, hRH⟩ : ∃ R H, ringE (T : Int) (N : Int) l = (R, H) := ⟨_, _, rfl⟩
            have HRA := Lib.hid (by have := Ring_any T N l a cap W5 b off (HS.out.chg HC5.out (fun x => x)) HA.out; rwa [hRH] at this)
            have hsnd := ringE_sound H0.out
            rw [hRH] at hsnd
            have HRH := Lib.hid hRH
            clear hRH
            rcases hsnd with ⟨h10, hnil⟩ | ⟨hz, hri, hrf⟩
            · dsimp only at h10 hnil
              subst h10
              subst hnil
              have HRG := HRH
              go_wp2_with fail
              refine HRA.out.mono ?_
              rintro e W6 ⟨ao6, c6, g6, rfl, _, _, hc6⟩
              have HC6 := Lib.hid (HC5.out.trans hc6 (fun _ x => x.elim))
              clear hc6
              by_cases hK1 : K = 1
              · exfalso
                refine free_one HV.out (by rw [HK.out]; exact hK1) (fun R h1 h2 => ?_) HPL.out
                have := ringE_finds H0.out h1 h2
                rw [HRG.out] at this
                cases this
              · have dk1 : ((K : Int) != 1) = true := by rw [bne_iff_ne]; omega
                have HCX := HC6
                clear hK1
                go_wp2_with fail
                refine (alive_any _).mono ?_
                rintro e w9 ⟨rfl, hc9⟩
                have HC9 := Lib.hid (HCX.out.trans hc9 (fun _ x => x.elim))
                clear hc9
                go_wp2_with fail
                go_ret
                exact ⟨rfl, HC9.out⟩
            · dsimp only at hz hri hrf
              subst hz
              have hrl : Rr.length ≤ 40 := by have := hri.2.1; omega
              have HRI := Lib.hid hri; have HRF := Lib.hid hrf
              clear hri hrf
              go_wp2_with fail
              refine HRA.out.mono ?_
              rintro e W6 ⟨ao6, c6, g6, rfl, hg6, hI6, hc6⟩
              have HC6 := Lib.hid (HC5.out.trans hc6 (fun _ x => x.elim))
              have HG6 := Lib.hid hg6; have HI6 := Lib.hid hI6
              clear hg6 hI6 hc6
              go_wp2_with fail
              refine (Refuses_any T N l a cap Rr ao6 c6 W6 b off g6 0 (HS.out.chg HC6.out (fun x => x)) HA.out HI6.out HG6.out hrl).mono ?_
              rintro e W7 ⟨b7, rfl, hb7, hc7⟩
              rw [H0.out]
              obtain rfl : b7 = true := hb7.2 ((refP_iff H0.out).2 ⟨HRI.out, HRF.out⟩)
              have HCX := Lib.hid (HC6.out.trans hc7 (fun _ x => x.elim))
              clear hb7 hc7
              go_wp2_with fail
              refine (alive_any _).mono ?_
              rintro e w9 ⟨rfl, hc9⟩
              have HC9 := Lib.hid (HCX.out.trans hc9 (fun _ x => x.elim))
              clear hc9
              go_wp2_with fail
              go_ret
              exact ⟨rfl, HC9.out⟩
      · rw [if_neg hpn] at hcode
        subst hcode
        have HPL := Lib.hid hpn
        clear hpn
        cases bb with
        | true =>
          exfalso
          obtain ⟨h1, h2⟩ := (refP_iff H0.out).1 (HB.out.1 rfl)
          exact HPL.out (refuse_none HV.out h1 h2)
        | false =>
          by_cases hK0 : K = 0
          · have dk0 : ((K : Int) == 0) = true := by rw [beq_iff_eq]; omega
            clear hK0
            by_cases hn4 : 4 < N
            · have dn : decide (4 < (N : Int)) = true := by rw [decide_eq_true_eq]; omega
              have dn' : decide (4 < N) = true := by rw [decide_eq_true_eq]; omega
              by_cases hl10 : 10 < l.length
              · have dl : decide (10 < (l.length : Int)) = true := by rw [decide_eq_true_eq]; omega
                have HCX := HC5
                go_wp2_with fail
                refine (alive_any _).mono ?_
                rintro e w9 ⟨rfl, hc9⟩
                have HC9 := Lib.hid (HCX.out.trans hc9 (fun _ x => x.elim))
                clear hc9
                go_wp2_with fail
                go_ret
                exact ⟨rfl, HC9.out⟩
              · have dl : decide (10 < (l.length : Int)) = false := by rw [decide_eq_false_iff_not]; omega
                obtain ⟨Rr, Hh, hRH⟩ : ∃ R H, ringE (T : Int) (N : Int) l = (R, H) := ⟨_, _, rfl⟩
                have HRA := Lib.hid (by have := Ring_any T N l a cap W5 b off (HS.out.chg HC5.out (fun x => x)) HA.out; rwa [hRH] at this)
                have hsnd := ringE_sound H0.out
                rw [hRH] at hsnd
                have HRH := Lib.hid hRH
                clear hRH
                rcases hsnd with ⟨h10, hnil⟩ | ⟨hz, hri, hrf⟩
                · dsimp only at h10 hnil
                  subst h10
                  subst hnil
                  have HRG := HRH
                  go_wp2_with fail
                  refine HRA.out.mono ?_
                  rintro e W6 ⟨ao6, c6, g6, rfl, _, _, hc6⟩
                  have HC6 := Lib.hid (HC5.out.trans hc6 (fun _ x => x.elim))
                  clear hc6
                  by_cases hK1 : K = 1
                  · subst hK1
                    go_wp2_with fail
                    refine (Groups_any (T : Int) N l a cap b off W6 HV.out (HS.out.chg HC6.out (fun x => x)) HA.out).mono ?_
                    rintro e W7 ⟨rfl, hc7⟩
                    have HCX := Lib.hid (HC6.out.trans hc7 (fun _ x => x.elim))
                    clear hc7
                    obtain ⟨gv, hgv⟩ : ∃ gv, (grps true N l).2 = gv := ⟨_, rfl⟩
                    rw [hgv]
                    clear hgv
                    by_cases hg1 : 1 < gv
                    · have dg : decide (1 < gv) = true := by simpa using hg1
                      clear hg1
                      go_wp2_with fail
                      refine (alive_any _).mono ?_
                      rintro e w9 ⟨rfl, hc9⟩
                      have HC9 := Lib.hid (HCX.out.trans hc9 (fun _ x => x.elim))
                      clear hc9
                      go_wp2_with fail
                      go_ret
                      exact ⟨rfl, HC9.out⟩
                    · have dg : decide (1 < gv) = false := by simpa using hg1
                      clear hg1
                      go_wp2_with fail
                      refine (alive_any _).mono ?_
                      rintro e w9 ⟨rfl, hc9⟩
                      have HC9 := Lib.hid (HCX.out.trans hc9 (fun _ x => x.elim))
                      clear hc9
                      go_wp2_with fail
                      go_ret
                      exact ⟨rfl, HC9.out⟩
                  · have dk1 : ((K : Int) != 1) = true := by rw [bne_iff_ne]; omega
                    have HCX := HC6
                    clear hK1
                    go_wp2_with fail
                    refine (alive_any _).mono ?_
                    rintro e w9 ⟨rfl, hc9⟩
                    have HC9 := Lib.hid (HCX.out.trans hc9 (fun _ x => x.elim))
                    clear hc9
                    go_wp2_with fail
                    go_ret
                    exact ⟨rfl, HC9.out⟩
                · dsimp only at hz hri hrf
                  subst hz
                  exact absurd (refuse_none HV.out hri hrf) HPL.out
            · have dn : decide (4 < (N : Int)) = false := by rw [decide_eq_false_iff_not]; omega
              have dn' : decide (4 < N) = false := by rw [decide_eq_false_iff_not]; omega
              obtain ⟨Rr, Hh, hRH⟩ : ∃ R H, ringE (T : Int) (N : Int) l = (R, H) := ⟨_, _, rfl⟩
              have HRA := Lib.hid (by have := Ring_any T N l a cap W5 b off (HS.out.chg HC5.out (fun x => x)) HA.out; rwa [hRH] at this)
              have hsnd := ringE_sound H0.out
              rw [hRH] at hsnd
              have HRH := Lib.hid hRH
              clear hRH
              rcases hsnd with ⟨h10, hnil⟩ | ⟨hz, hri, hrf⟩
              · dsimp only at h10 hnil
                subst h10
                subst hnil
                have HRG := HRH
                go_wp2_with fail
                refine HRA.out.mono ?_
                rintro e W6 ⟨ao6, c6, g6, rfl, _, _, hc6⟩
                have HC6 := Lib.hid (HC5.out.trans hc6 (fun _ x => x.elim))
                clear hc6
                by_cases hK1 : K = 1
                · subst hK1
                  go_wp2_with fail
                  refine (Groups_any (T : Int) N l a cap b off W6 HV.out (HS.out.chg HC6.out (fun x => x)) HA.out).mono ?_
                  rintro e W7 ⟨rfl, hc7⟩
                  have HCX := Lib.hid (HC6.out.trans hc7 (fun _ x => x.elim))
                  clear hc7
                  obtain ⟨gv, hgv⟩ : ∃ gv, (grps true N l).2 = gv := ⟨_, rfl⟩
                  rw [hgv]
                  clear hgv
                  by_cases hg1 : 1 < gv
                  · have dg : decide (1 < gv) = true := by simpa using hg1
                    clear hg1
                    go_wp2_with fail
                    refine (alive_any _).mono ?_
                    rintro e w9 ⟨rfl, hc9⟩
                    have HC9 := Lib.hid (HCX.out.trans hc9 (fun _ x => x.elim))
                    clear hc9
                    go_wp2_with fail
                    go_ret
                    exact ⟨rfl, HC9.out⟩
                  · have dg : decide (1 < gv) = false := by simpa using hg1
                    clear hg1
                    go_wp2_with fail
                    refine (alive_any _).mono ?_
                    rintro e w9 ⟨rfl, hc9⟩
                    have HC9 := Lib.hid (HCX.out.trans hc9 (fun _ x => x.elim))
                    clear hc9
                    go_wp2_with fail
                    go_ret
                    exact ⟨rfl, HC9.out⟩
                · have dk1 : ((K : Int) != 1) = true := by rw [bne_iff_ne]; omega
                  have HCX := HC6
                  clear hK1
                  go_wp2_with fail
                  refine (alive_any _).mono ?_
                  rintro e w9 ⟨rfl, hc9⟩
                  have HC9 := Lib.hid (HCX.out.trans hc9 (fun _ x => x.elim))
                  clear hc9
                  go_wp2_with fail
                  go_ret
                  exact ⟨rfl, HC9.out⟩
              · dsimp only at hz hri hrf
                subst hz
                exact absurd (refuse_none HV.out hri hrf) HPL.out
          · have dk0 : ((K : Int) == 0) = false := by rw [beq_eq_false_iff_ne]; omega
            clear hK0
            by_cases hn4 : 4 < N
            · have dn : decide (4 < (N : Int)) = true := by rw [decide_eq_true_eq]; omega
              have dn' : decide (4 < N) = true := by rw [decide_eq_true_eq]; omega
              by_cases hl10 : 10 < l.length
              · have dl : decide (10 < (l.length : Int)) = true := by rw [decide_eq_true_eq]; omega
                have HCX := HC5
                go_wp2_with fail
                refine (alive_any _).mono ?_
                rintro e w9 ⟨rfl, hc9⟩
                have HC9 := Lib.hid (HCX.out.trans hc9 (fun _ x => x.elim))
                clear hc9
                go_wp2_with fail
                go_ret
                exact ⟨rfl, HC9.out⟩
              · have dl : decide (10 < (l.length : Int)) = false := by rw [decide_eq_false_iff_not]; omega
                obtain ⟨Rr, Hh, hRH⟩ : ∃ R H, ringE (T : Int) (N : Int) l = (R, H) := ⟨_, _, rfl⟩
                have HRA := Lib.hid (by have := Ring_any T N l a cap W5 b off (HS.out.chg HC5.out (fun x => x)) HA.out; rwa [hRH] at this)
                have hsnd := ringE_sound H0.out
                rw [hRH] at hsnd
                have HRH := Lib.hid hRH
                clear hRH
                rcases hsnd with ⟨h10, hnil⟩ | ⟨hz, hri, hrf⟩
                · dsimp only at h10 hnil
                  subst h10
                  subst hnil
                  have HRG := HRH
                  go_wp2_with fail
                  refine HRA.out.mono ?_
                  rintro e W6 ⟨ao6, c6, g6, rfl, _, _, hc6⟩
                  have HC6 := Lib.hid (HC5.out.trans hc6 (fun _ x => x.elim))
                  clear hc6
                  by_cases hK1 : K = 1
                  · subst hK1
                    go_wp2_with fail
                    refine (Groups_any (T : Int) N l a cap b off W6 HV.out (HS.out.chg HC6.out (fun x => x)) HA.out).mono ?_
                    rintro e W7 ⟨rfl, hc7⟩
                    have HCX := Lib.hid (HC6.out.trans hc7 (fun _ x => x.elim))
                    clear hc7
                    obtain ⟨gv, hgv⟩ : ∃ gv, (grps true N l).2 = gv := ⟨_, rfl⟩
                    rw [hgv]
                    clear hgv
                    by_cases hg1 : 1 < gv
                    · have dg : decide (1 < gv) = true := by simpa using hg1
                      clear hg1
                      go_wp2_with fail
                      refine (alive_any _).mono ?_
                      rintro e w9 ⟨rfl, hc9⟩
                      have HC9 := Lib.hid (HCX.out.trans hc9 (fun _ x => x.elim))
                      clear hc9
                      go_wp2_with fail
                      go_ret
                      exact ⟨rfl, HC9.out⟩
                    · have dg : decide (1 < gv) = false := by simpa using hg1
                      clear hg1
                      go_wp2_with fail
                      refine (alive_any _).mono ?_
                      rintro e w9 ⟨rfl, hc9⟩
                      have HC9 := Lib.hid (HCX.out.trans hc9 (fun _ x => x.elim))
                      clear hc9
                      go_wp2_with fail
                      go_ret
                      exact ⟨rfl, HC9.out⟩
                  · have dk1 : ((K : Int) != 1) = true := by rw [bne_iff_ne]; omega
                    have HCX := HC6
                    clear hK1
                    go_wp2_with fail
                    refine (alive_any _).mono ?_
                    rintro e w9 ⟨rfl, hc9⟩
                    have HC9 := Lib.hid (HCX.out.trans hc9 (fun _ x => x.elim))
                    clear hc9
                    go_wp2_with fail
                    go_ret
                    exact ⟨rfl, HC9.out⟩
                · dsimp only at hz hri hrf
                  subst hz
                  exact absurd (refuse_none HV.out hri hrf) HPL.out
            · have dn : decide (4 < (N : Int)) = false := by rw [decide_eq_false_iff_not]; omega
              have dn' : decide (4 < N) = false := by rw [decide_eq_false_iff_not]; omega
              obtain ⟨Rr, Hh, hRH⟩ : ∃ R H, ringE (T : Int) (N : Int) l = (R, H) := ⟨_, _, rfl⟩
              have HRA := Lib.hid (by have := Ring_any T N l a cap W5 b off (HS.out.chg HC5.out (fun x => x)) HA.out; rwa [hRH] at this)
              have hsnd := ringE_sound H0.out
              rw [hRH] at hsnd
              have HRH := Lib.hid hRH
              clear hRH
              rcases hsnd with ⟨h10, hnil⟩ | ⟨hz, hri, hrf⟩
              · dsimp only at h10 hnil
                subst h10
                subst hnil
                have HRG := HRH
                go_wp2_with fail
                refine HRA.out.mono ?_
                rintro e W6 ⟨ao6, c6, g6, rfl, _, _, hc6⟩
                have HC6 := Lib.hid (HC5.out.trans hc6 (fun _ x => x.elim))
                clear hc6
                by_cases hK1 : K = 1
                · subst hK1
                  go_wp2_with fail
                  refine (Groups_any (T : Int) N l a cap b off W6 HV.out (HS.out.chg HC6.out (fun x => x)) HA.out).mono ?_
                  rintro e W7 ⟨rfl, hc7⟩
                  have HCX := Lib.hid (HC6.out.trans hc7 (fun _ x => x.elim))
                  clear hc7
                  obtain ⟨gv, hgv⟩ : ∃ gv, (grps true N l).2 = gv := ⟨_, rfl⟩
                  rw [hgv]
                  clear hgv
                  by_cases hg1 : 1 < gv
                  · have dg : decide (1 < gv) = true := by simpa using hg1
                    clear hg1
                    go_wp2_with fail
                    refine (alive_any _).mono ?_
                    rintro e w9 ⟨rfl, hc9⟩
                    have HC9 := Lib.hid (HCX.out.trans hc9 (fun _ x => x.elim))
                    clear hc9
                    go_wp2_with fail
                    go_ret
                    exact ⟨rfl, HC9.out⟩
                  · have dg : decide (1 < gv) = false := by simpa using hg1
                    clear hg1
                    go_wp2_with fail
                    refine (alive_any _).mono ?_
                    rintro e w9 ⟨rfl, hc9⟩
                    have HC9 := Lib.hid (HCX.out.trans hc9 (fun _ x => x.elim))
                    clear hc9
                    go_wp2_with fail
                    go_ret
                    exact ⟨rfl, HC9.out⟩
                · have dk1 : ((K : Int) != 1) = true := by rw [bne_iff_ne]; omega
                  have HCX := HC6
                  clear hK1
                  go_wp2_with fail
                  refine (alive_any _).mono ?_
                  rintro e w9 ⟨rfl, hc9⟩
                  have HC9 := Lib.hid (HCX.out.trans hc9 (fun _ x => x.elim))
                  clear hc9
                  go_wp2_with fail
                  go_ret
                  exact ⟨rfl, HC9.out⟩
              · dsimp only at hz hri hrf
                subst hz
                exact absurd (refuse_none HV.out hri hrf) HPL.out
    · have hq : (spansE t n l != 0) = true := by simpa using h0
      have hpe := HPE.out
      rw [planE_err h0] at hpe
      obtain ⟨rfl, rfl⟩ : P = [] ∧ spansE t n l = E := by simpa [eq_comm] using hpe
      rw [freeE_err h0]
      cases bb with
      | true => exact absurd (HB.out.1 rfl).1 h0
      | false =>
        have HSE := Lib.hid (fun W (hW : Chg (fun _ => False) w' W) => spans_any t n l a cap W b off (HS.out.chg hW (fun x => x)) HA.out)
        obtain ⟨E, hE⟩ : ∃ E, spansE t n l = E := ⟨_, rfl⟩
        rw [hE] at hq ⊢
        simp only [hE] at HSE
        clear h0 hpe HPE hE HB
        go_wp2_with fail
        refine (HSE.out W4 HC4.out).mono ?_
        rintro e W5 ⟨rfl, x, rfl⟩
        have HCX := Lib.hid (HC4.out.grow x)
        generalize W4.grow x = W5 at HCX ⊢
        have dee : (E == E) = true := by simp
        go_wp2_with fail
        refine (alive_any _).mono ?_
        rintro e w9 ⟨rfl, hc9⟩
        have HC9 := Lib.hid (HCX.out.trans hc9 (fun _ x => x.elim))
        clear hc9
        go_wp2_with fail
        go_ret
        exact ⟨rfl, HC9.out⟩
  · have d40 : decide (l.length ≤ 40 ∧ X.length ≤ 40 ∧ 0 ≤ 40) = false := by rw [decide_eq_false_iff_not]; omega
    have HCX := Lib.hid (Chg.refl (fun _ => False) w)
    clear hf
    go_enter Try.func11, Try.ntmps11
    go_wp2_with fail
    refine (few_any a ar none l.length X.length 0 cap cr 0 w).mono ?_
    rw [d40]
    rintro e w' ⟨rfl, rfl⟩
    go_wp2_with fail
    refine (alive_any _).mono ?_
    rintro e w9 ⟨rfl, hc9⟩
    have HC9 := Lib.hid (HCX.out.trans hc9 (fun _ x => x.elim))
    clear hc9
    go_wp2_with fail
    go_ret
    exact ⟨rfl, HC9.out⟩
end Go.Proofs.Ytgamekcjjpjnnaa
