/- The walk of the statement TurnWhole: it returns true and changes nothing that was there. Its conditions are its premises. -/
import Derived.Test.YtgamekcjjpjnnaaM9
import Derived.Test.YtgamekcjjpjnnaaL4
import Derived.Test.YtgamekcjjpjnnaaL3
set_option linter.unusedVariables false
namespace Go.Proofs.Ytgamekcjjpjnnaa
open Go.RowKit

theorem tdiv_floor {a b : Int} (hb : 1 ≤ b) : a / b = if a.tmod b < 0 then a.tdiv b - 1 else a.tdiv b := by
  have e := Int.mul_tdiv_add_tmod a b
  have r1 : -b < a.tmod b := Int.lt_tmod_of_pos a (by omega)
  have r2 : a.tmod b < b := Int.tmod_lt_of_pos a (by omega)
  split
  · rename_i h
    have e2 : a = (a.tmod b + b) + b * (a.tdiv b - 1) := by rw [Int.mul_sub]; omega
    rw [e2, Int.add_mul_ediv_left _ _ (by omega), Int.ediv_eq_zero_of_lt (by omega) (by omega)]
    rw [← e2]; omega
  · rename_i h
    have e2 : a = a.tmod b + b * a.tdiv b := by omega
    rw [e2, Int.add_mul_ediv_left _ _ (by omega), Int.ediv_eq_zero_of_lt (by omega) (by omega)]
    rw [← e2]; omega

theorem tdiv_bound {a b : Int} (h0 : -1000000 ≤ a) (h1 : a ≤ 1000000) : -1000000 ≤ a.tdiv b ∧ a.tdiv b ≤ 1000000 := by
  have := Int.natAbs_tdiv_le_natAbs a b
  omega

theorem floor_any (a b : Int) (w : World) (hb : 1 ≤ b) (hb2 : b ≤ 1000) (h0 : -1000000 ≤ a) (h1 : a ≤ 1000000) : Calls Try.prog 39 #[.int .i64 a, .int .i64 b] w fun e w' => e = .returned (.int .i64 (a / b)) ∧ w' = w := by
  have hf := tdiv_floor (a := a) hb
  have hq := tdiv_bound (b := b) h0 h1
  have HF := Lib.hid hf
  clear hf
  by_cases hr : a.tmod b < 0
  · have d : decide (a.tmod b < 0) = true := by simpa using hr
    go_enter Try.func39, Try.ntmps39
    go_wp2
    go_ret
    exact ⟨ret_int (by rw [HF.out, if_pos hr]), rfl⟩
  · have d : decide (a.tmod b < 0) = false := by simpa using hr
    go_enter Try.func39, Try.ntmps39
    go_wp2
    go_ret
    exact ⟨ret_int (by rw [HF.out, if_neg (by omega)]), rfl⟩

theorem ediv_bound {a b : Int} (hb : 1 ≤ b) (h0 : -4200 ≤ a) (h1 : a ≤ 4200) : -4200 ≤ a / b ∧ a / b ≤ 4200 := by
  constructor
  · rw [Int.le_ediv_iff_mul_le (by omega)]
    omega
  · have : a / b < 4201 := by rw [Int.ediv_lt_iff_lt_mul (by omega)]; omega
    omega

set_option maxRecDepth 100000 in
set_option maxHeartbeats 4000000 in
theorem whole_law (t n : Int) (l : List Sp) (a : Option Addr) (cap b off : Nat) (X : List Int) (ax : Option Addr) (cx bx ox : Nat) (R : List Int) (ar : Option Addr) (cr br or_ : Nat) (w : World) (_ : (Lit.int .i64 t).wf = true) (_ : (Lit.int .i64 n).wf = true)
    (hs : SpansAt w b off l) (ha : l = [] ∨ a = some ⟨b, off, none⟩) (_ : ∀ s ∈ l, s.I64) (hX : IntsAt w bx ox X) (hax : X = [] ∨ ax = some ⟨bx, ox, none⟩) (_ : ∀ x ∈ X, I64 x) (hR : IntsAt w br or_ R) (har : R = [] ∨ ar = some ⟨br, or_, none⟩) (hI : ∀ x ∈ R, I64 x) :
    Calls Try.prog 13 #[.int .i64 t, .int .i64 n, .slice a l.length cap, .slice ax X.length cx, .slice ar R.length cr] w (TPost w) := by
  have HS := Lib.hid hs; have HA := Lib.hid ha; have HX := Lib.hid hX; have HAX := Lib.hid hax; have HR := Lib.hid hR; have HAR := Lib.hid har; have HI := Lib.hid hI
  clear hs ha hX hax hR har hI
  by_cases hf : l.length ≤ 40 ∧ X.length ≤ 40 ∧ R.length ≤ 40
  · have d40 : decide (l.length ≤ 40 ∧ X.length ≤ 40 ∧ R.length ≤ 40) = true := by rw [decide_eq_true_eq]; exact hf
    obtain ⟨_, hXl, hRl⟩ := hf
    go_enter Try.func13, Try.ntmps13
    go_wp2_with fail
    refine (few_any a ax ar l.length X.length R.length cap cx cr w).mono ?_
    rw [d40]
    rintro e w' ⟨rfl, rfl⟩
    go_wp2_with fail
    refine (Rounds_any t n l a cap b off X ax cx bx ox R ar cr br or_ w' HS.out HA.out HX.out HAX.out hXl HR.out HAR.out hRl).mono ?_
    by_cases hbad : ∃ E, E ≠ 0 ∧ roundsE t n l X R = (0, E)
    · obtain ⟨E, hE0, hE⟩ := hbad
      rw [hE]
      rintro e w1 ⟨rfl, hc1⟩
      have HC1 := Lib.hid hc1
      have hq : (E != 0) = true := by simpa using hE0
      clear hE hE0 hc1
      go_wp2_with fail
      refine (Slack_any t n l a cap b off X ax cx bx ox w1 (HS.out.chg HC1.out (fun x => x)) HA.out (HX.out.chg HC1.out (fun x => x)) HAX.out (by omega)).mono ?_
      obtain ⟨L, E2, hLE⟩ : ∃ L E2, slackE t n l X = (L, E2) := ⟨_, _, rfl⟩
      rw [hLE]
      rintro e w2 ⟨ao, c, g, rfl, _, _, hc2⟩
      have HCX := Lib.hid (HC1.out.trans hc2 (fun _ x => x.elim))
      clear hLE hc2
      go_wp2_with fail
      refine (alive_any _).mono ?_
      rintro e w9 ⟨rfl, hc9⟩
      have HC9 := Lib.hid (HCX.out.trans hc9 (fun _ x => x.elim))
      clear hc9
      go_wp2_with fail
      go_ret
      exact ⟨rfl, HC9.out⟩
    · have hgood : spansE t n l = 0 ∧ isRing n.toNat l R ∧ planP t n l X := by
        refine Classical.byContradiction fun h => hbad ?_
        by_cases h0 : spansE t n l = 0
        · by_cases h1 : isRing n.toNat l R ∧ planP t n l X
          · exact absurd ⟨h0, h1⟩ h
          · exact ⟨2, by omega, roundsE_bad h0 h1⟩
        · exact ⟨_, h0, roundsE_err h0⟩
      clear hbad
      obtain ⟨h0, hring, hplan⟩ := hgood
      have hv := valid_of h0
      obtain ⟨T, rfl⟩ : ∃ T : Nat, t = T := ⟨t.toNat, by have := hv.t1; omega⟩
      obtain ⟨N, rfl⟩ : ∃ N : Nat, n = N := ⟨n.toNat, by have := hv.n1; omega⟩
      have hE := roundsE_ok (X := X) h0 ⟨hring, hplan⟩
      rw [Int.toNat_natCast] at hring
      obtain ⟨k, k1, k2, k3, k4, k5, k6⟩ := rounds_whole hv hplan hring
      rw [k2] at hE
      rw [hE]
      have HV := Lib.hid hv; have H0 := Lib.hid h0; have HRG := Lib.hid hring; have HPL := Lib.hid hplan; have HK1 := Lib.hid k1
      have ht1 := hv.t1; have ht2 := hv.t2; have hl20 := hv.len; have hn2 := hv.n2
      have HCH := Lib.hid hring.2.2.1
      have hRN := hring.2.1
      have hsbR := sum_bounds hv hring.2.2.1.ok
      obtain ⟨slo, hslo⟩ : ∃ slo, sumLo l R R.length = slo := ⟨_, rfl⟩
      obtain ⟨shi, hshi⟩ : ∃ shi, sumHi l R R.length = shi := ⟨_, rfl⟩
      rw [hslo, hshi] at hsbR
      rw [hslo] at k3
      rw [hshi] at k4
      have HSLO := Lib.hid hslo; have HSHI := Lib.hid hshi
      have K34 := Lib.hid (And.intro k3 k4)
      obtain ⟨L, hL⟩ : ∃ L, (l.map fun s => slackV T s X) = L := ⟨_, rfl⟩
      have hLl : L.length = l.length := by rw [← hL]; simp
      have HLL := Lib.hid hL; have HLN := Lib.hid hLl
      clear hv h0 hring hplan hE k1 k2 k3 k4 hslo hshi hL
      rintro e w1 ⟨rfl, hc1⟩
      have HC1 := Lib.hid hc1
      clear hc1
      go_wp2_with fail
      refine (Slack_any T N l a cap b off X ax cx bx ox w1 (HS.out.chg HC1.out (fun x => x)) HA.out (HX.out.chg HC1.out (fun x => x)) HAX.out (by omega)).mono ?_
      rw [slackE_ok H0.out HPL.out.1, HLL.out]
      rintro e w2 ⟨ao, c, g, rfl, hg, hI, hc2⟩
      have HG := Lib.hid hg; have HI2 := Lib.hid hI; have HC2 := Lib.hid (HC1.out.trans hc2 (fun _ x => x.elim))
      clear hg hI hc2
      go_wp2_with fail
      refine (spans_any T N l a cap w2 b off (HS.out.chg HC2.out (fun x => x)) HA.out).mono ?_
      rw [H0.out]
      rintro e w3 ⟨rfl, x, rfl⟩
      have HC3 := Lib.hid (HC2.out.grow x); have HI3 := Lib.hid (HI2.out.chg (grow_chg w2 x) (fun x => x))
      generalize w2.grow x = w3 at HC3 HI3 ⊢
      go_wp2_with fail
      refine (IsRing_any T N l a ar cap cr w3 b off br or_ R (HS.out.chg HC3.out (fun x => x)) HA.out HV.out (HR.out.chg HC3.out (fun x => x)) HAR.out HI.out).mono ?_
      rintro e w4 ⟨x, y, bb, rfl, hb, hxy, hc4⟩
      obtain rfl : bb = true := hb.2 HRG.out
      obtain ⟨rfl, rfl⟩ := hxy rfl
      rw [HSLO.out, HSHI.out]
      have HC4 := Lib.hid (HC3.out.trans hc4 (fun _ x => x.elim)); have HI4 := Lib.hid (HI3.out.chg hc4 (fun x => x))
      have dll : ((L.length : Int) != (l.length : Int)) = false := by rw [bne_eq_false_iff_eq, hLl]
      clear hb hxy hc4
      go_wp2_with fail
      go_loopg [18, 19] R.length (fun g sv iv wr => ∃ i : Nat, i ≤ R.length ∧ g = R.length - i ∧ iv = .int .i64 i ∧ sv = .int .i64 (sumT T l X R i) ∧ Chg (fun _ => False) w4 wr)
      case atStart => exact ⟨0, by omega, by omega, rfl, rfl, Chg.refl _ w4⟩
      case round =>
        obtain ⟨i, him, rfl, rfl, rfl, hcg⟩ := hrel
        have HCG := Lib.hid hcg
        have hsb := sumT_bounds (X := X) HV.out (HCH.out.mono him).ok
        by_cases hlt : i < R.length
        · obtain ⟨sm, hsm⟩ : ∃ sm, sumT T l X R i = sm := ⟨_, rfl⟩
          rw [hsm] at hsb ⊢
          have HSM := Lib.hid hsm
          clear hcg hsm
          have hne2 : ar = some ⟨br, or_, none⟩ := HAR.out.resolve_left (by intro h; simp [h] at hlt)
          subst hne2
          have hcw := HC4.out.trans HCG.out (fun _ x => x.elim)
          have gk := HR.out.chg hcw (fun x => x) i hlt
          rw [hr_get] at gk
          have hok := HCH.out.ok i hlt
          obtain ⟨k, hk⟩ : ∃ k, hr R i = k := ⟨_, rfl⟩
          rw [hk] at gk hok
          have HK := Lib.hid hk
          clear hk
          have hklt : k.natAbs - 1 < l.length := by obtain ⟨_, _, _⟩ := hok; omega
          have hne3 : a = some ⟨b, off, none⟩ := HA.out.resolve_left (by intro h; simp [h] at hklt)
          subst hne3
          obtain ⟨c0, c1, c2, c3⟩ := HS.out.chg hcw (fun x => x) _ hklt
          have hne4 : ao = some ⟨g, 0, none⟩ := HG.out.resolve_left (by intro h; rw [h] at hLl; simp at hLl; omega)
          subst hne4
          have gl := HI4.out.chg HCG.out (fun x => x) (k.natAbs - 1) (by omega)
          have erw : l[k.natAbs - 1] = rawSp l k := by unfold rawSp; rw [List.getD_eq_getElem?_getD, List.getElem?_eq_getElem hklt]; rfl
          have eL : L[k.natAbs - 1]'(by omega) = slackV T (rawSp l k) X := by
            have : L[k.natAbs - 1]'(by omega) = slackV T l[k.natAbs - 1] X := by simp [← HLL.out]
            rw [this, erw]
          rw [eL, Nat.zero_add] at gl
          rw [erw] at c0 c1 c2 c3
          have hrb := HV.out.ok _ (raw_ok HV.out hok)
          have htv : termV T l X k = if decide (0 < k) = true then (rawSp l k).lo + slackV T (rawSp l k) X else -((rawSp l k).lo + slackV T (rawSp l k) X) := by unfold termV; simp
          generalize rawSp l k = s at htv hrb c0 c1 c2 c3 erw eL gl
          have hqb := slackV_bounds (show (1 : Int) ≤ T by omega) s X
          obtain ⟨q, hq⟩ : ∃ q, slackV T s X = q := ⟨_, rfl⟩
          rw [hq] at hqb htv gl
          have hab : -700 ≤ s.lo + q ∧ s.lo + q ≤ 700 := by omega
          have hwr : IntKind.i64.wrap (s.lo + q) = s.lo + q := by rw [IntKind.wrap_i64]; omega
          obtain ⟨K, hK⟩ : ∃ K, k.natAbs - 1 = K := ⟨_, rfl⟩
          rw [hK] at c0 c1 c2 c3 hklt gl
          have hkL : K < L.length := by omega
          clear erw hq hcw eL
          by_cases hpos : 0 < k
          · obtain rfl : k = (K : Int) + 1 := by omega
            rw [if_pos (by rw [decide_eq_true_eq]; omega)] at htv
            have HTV := Lib.hid htv
            have dp : decide (0 < (K : Int) + 1) = true := by rw [decide_eq_true_eq]; exact hpos
            have hwr2 : IntKind.i64.wrap (sm + (s.lo + q)) = sm + (s.lo + q) := by rw [IntKind.wrap_i64]; omega
            have HW1 := Lib.hid hwr; have HW2 := Lib.hid hwr2
            clear htv hok hK hpos hwr hwr2
            go_wp2_with fail
            have hwr := HW1.out
            have hwr2 := HW2.out
            go_quiet (fail)
            clear hwr hwr2 c0 c1 c2 c3 gk gl
            have HCD := Lib.hid (HCG.out.drewN nq)
            go_wp2_with fail
            go_roundg (R.length - (i + 1))
            case measure => omega
            case rel => exact ⟨i + 1, by omega, rfl, by go_num, by rw [sumT, HSM.out, HK.out, HTV.out], HCD.out⟩
          · obtain rfl : k = -(K : Int) - 1 := by obtain ⟨_, _, _⟩ := hok; omega
            rw [if_neg (by rw [decide_eq_true_eq]; omega)] at htv
            have HTV := Lib.hid htv
            have dp : decide (0 < -(K : Int) - 1) = false := by rw [decide_eq_false_iff_not]; exact hpos
            have hneg : -(-(K : Int) - 1) = K + 1 := by omega
            have hwr2 : IntKind.i64.wrap (sm - (s.lo + q)) = sm - (s.lo + q) := by rw [IntKind.wrap_i64]; omega
            have HW1 := Lib.hid hwr; have HW2 := Lib.hid hwr2
            clear htv hok hK hpos hwr hwr2
            go_wp2_with fail
            have hwr := HW1.out
            have hwr2 := HW2.out
            go_quiet (fail)
            clear hwr hwr2 c0 c1 c2 c3 gk gl
            have HCD := Lib.hid (HCG.out.drewN nq)
            go_wp2_with fail
            go_roundg (R.length - (i + 1))
            case measure => omega
            case rel => exact ⟨i + 1, by omega, rfl, by go_num, by rw [sumT, HSM.out, HK.out, HTV.out]; go_num, HCD.out⟩
        · obtain rfl : i = R.length := by omega
          rw [HK1.out]
          obtain ⟨P, hP⟩ : ∃ P : Int, (T : Int) * k = P := ⟨_, rfl⟩
          have hPb : -4200 ≤ P ∧ P ≤ 4200 := by rw [← hP, ← HK1.out]; omega
          have dP : (wrap64 (k * (T : Int)) == P) = true := by rw [Int.mul_comm, hP, beq_iff_eq]; unfold wrap64; omega
          rw [hP]
          have HCX := Lib.hid (HC4.out.trans HCG.out (fun _ x => x.elim))
          have HP := Lib.hid hP; have HDP := Lib.hid dP
          clear hlt hP hsb
          go_wp2_with fail
          refine (floor_any (-slo) T wr ht1 (by omega) (by omega) (by omega)).mono ?_
          have hf1 := ediv_bound (a := -slo) ht1 (by omega) (by omega)
          have hk1 := K34.out.1
          obtain ⟨f1, hf⟩ : ∃ f1, -slo / (T : Int) = f1 := ⟨_, rfl⟩
          rw [hf] at hf1 hk1 ⊢
          have dk1 : decide (-f1 ≤ k) = true := by rw [decide_eq_true_eq]; exact hk1
          clear hf
          rintro e w' ⟨rfl, rfl⟩
          go_wp2_with fail
          refine (floor_any shi T w' ht1 (by omega) (by omega) (by omega)).mono ?_
          have hf2 := ediv_bound (a := shi) ht1 (by omega) (by omega)
          have hk2 := K34.out.2
          obtain ⟨f2, hf⟩ : ∃ f2, shi / (T : Int) = f2 := ⟨_, rfl⟩
          rw [hf] at hf2 hk2 ⊢
          have dk2 : decide (k ≤ f2) = true := by rw [decide_eq_true_eq]; exact hk2
          clear hf
          rintro e w'' ⟨rfl, rfl⟩
          go_wp2_with fail
          refine (alive_any _).mono ?_
          rintro e w9 ⟨rfl, hc9⟩
          have HC9 := Lib.hid (HCX.out.trans hc9 (fun _ x => x.elim))
          clear hc9
          go_wp2_with fail
          go_ret
          exact ⟨rfl, HC9.out⟩
  · have d40 : decide (l.length ≤ 40 ∧ X.length ≤ 40 ∧ R.length ≤ 40) = false := by rw [decide_eq_false_iff_not]; exact hf
    clear hf
    go_enter Try.func13, Try.ntmps13
    go_wp2_with fail
    refine (few_any a ax ar l.length X.length R.length cap cx cr w).mono ?_
    rw [d40]
    rintro e w' ⟨rfl, rfl⟩
    have HCX := Lib.hid (Chg.refl (fun _ => False) w')
    go_wp2_with fail
    refine (alive_any _).mono ?_
    rintro e w9 ⟨rfl, hc9⟩
    have HC9 := Lib.hid (HCX.out.trans hc9 (fun _ x => x.elim))
    clear hc9
    go_wp2_with fail
    go_ret
    exact ⟨rfl, HC9.out⟩
end Go.Proofs.Ytgamekcjjpjnnaa
