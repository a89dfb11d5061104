/- The walk of the statement TurnShort: it returns true and changes nothing that was there. Its conditions are its premises. -/
import Derived.Test.YtgamekcjjpjnnaaM7
import Derived.Test.YtgamekcjjpjnnaaA32
import Derived.Test.YtgamekcjjpjnnaaL1
set_option linter.unusedVariables false
namespace Go.Proofs.Ytgamekcjjpjnnaa
open Go.RowKit

set_option maxRecDepth 100000 in
set_option maxHeartbeats 2000000 in
theorem short_law (t n : Int) (l : List Sp) (a : Option Addr) (cap b off : Nat) (X : List Int) (ar : Option Addr) (cr br or_ : Nat) (w : World) (ht : (Lit.int .i64 t).wf = true) (hn : (Lit.int .i64 n).wf = true)
    (hs : SpansAt w b off l) (ha : l = [] ∨ a = some ⟨b, off, none⟩) (_ : ∀ s ∈ l, s.I64) (hR : IntsAt w br or_ X) (har : X = [] ∨ ar = some ⟨br, or_, none⟩) (hI : ∀ x ∈ X, I64 x) :
    Calls Try.prog 12 #[.int .i64 t, .int .i64 n, .slice a l.length cap, .slice ar X.length cr] w (TPost w) := by
  have HS := Lib.hid hs; have HA := Lib.hid ha; have HR := Lib.hid hR; have HAR := Lib.hid har
  have HT := Lib.hid (i64_of ht); have HN := Lib.hid (i64_of hn)
  clear hs ha hR har hI ht hn
  by_cases hf : l.length ≤ 40 ∧ X.length ≤ 40
  · have d40 : decide (l.length ≤ 40 ∧ X.length ≤ 40 ∧ 0 ≤ 40) = true := by rw [decide_eq_true_eq]; omega
    have hl : X.length ≤ 1000 := by omega
    clear hf
    go_enter Try.func12, Try.ntmps12
    go_wp2_with fail
    refine (few_any a ar none l.length X.length 0 cap cr 0 w).mono ?_
    rw [d40]
    rintro e w' ⟨rfl, rfl⟩
    go_wp2_with fail
    refine (mild_any t n w' HT.out HN.out).mono ?_
    rintro e w'' ⟨bm, rfl, rfl, hm⟩
    have HM := Lib.hid hm
    clear hm
    obtain ⟨w', rfl⟩ : ∃ W : World, W = w'' := ⟨_, rfl⟩
    cases bm with
    | false =>
      have HCX := Lib.hid (Chg.refl (fun _ => False) w')
      go_wp2_with fail
      refine (alive_any _).mono ?_
      rintro e w9 ⟨rfl, hc9⟩
      have HC9 := Lib.hid (HCX.out.trans hc9 (fun _ x => x.elim))
      clear hc9
      go_wp2_with fail
      go_ret
      exact ⟨rfl, HC9.out⟩
    | true =>
      by_cases h0 : spansE t n l = 0
      · have hv := valid_of h0
        obtain ⟨T, rfl⟩ : ∃ T : Nat, t = T := ⟨t.toNat, by have := hv.t1; omega⟩
        obtain ⟨N, rfl⟩ : ∃ N : Nat, n = N := ⟨n.toNat, by have := hv.n1; omega⟩
        have H0 := Lib.hid h0; have HV := Lib.hid hv
        have hl20 := hv.len
        have hpm := HM.out rfl T N rfl rfl (by have := hv.t1; omega) (by have := hv.t2; omega) (by have := hv.n1; omega) (by have := hv.n2; omega)
        have hpl := plans_len (l := l) (T := T) (N := N) (by have := hv.t1; omega) (by have := hv.n1; omega)
        have hsf := shortE_few h0 (by omega)
        have hn2 := hv.n2
        have hdb : decide (spansE (T : Int) (N : Int) l = 0 ∧ planP (T : Int) (N : Int) l X) = decide (planP (T : Int) (N : Int) l X) := by rw [decide_eq_decide]; exact ⟨fun h => h.2, fun h => ⟨h0, h⟩⟩
        have HDB := Lib.hid hdb
        clear hv hpm hpl h0 hdb
        rcases hsf with ⟨hp0, hE⟩ | ⟨Y, hY, hE, hmin⟩
        · have HE := Lib.hid hE; have HP0 := Lib.hid hp0
          clear hE hp0
          go_wp2_with fail
          refine (Shortest_any T N l a cap w' b off HS.out HA.out).mono ?_
          rw [HE.out]
          rintro e w1 ⟨ao, c, g, rfl, hg, hI, hc1⟩
          have HC1 := Lib.hid hc1
          clear hg hI hc1
          go_wp2_with fail
          refine (Is_any T N l a cap b off X ar cr br or_ w1 (HS.out.chg HC1.out (fun x => x)) HA.out (HR.out.chg HC1.out (fun x => x)) HAR.out hl).mono ?_
          rintro e w2 ⟨rfl, hc2⟩
          have HCX := Lib.hid (HC1.out.trans hc2 (fun _ x => x.elim))
          rw [HDB.out, H0.out, show decide (planP (T : Int) (N : Int) l X) = false by rw [decide_eq_false_iff_not]; exact fun h => by have := plans_mem.2 h; rw [HP0.out] at this; cases this]
          clear hc2
          go_wp2_with fail
          refine (alive_any _).mono ?_
          rintro e w9 ⟨rfl, hc9⟩
          have HC9 := Lib.hid (HCX.out.trans hc9 (fun _ x => x.elim))
          clear hc9
          go_wp2_with fail
          go_ret
          exact ⟨rfl, HC9.out⟩
        · have hPY := plans_mem.1 hY
          have hYl : Y.length ≤ 1000 := by have := hPY.1.1; omega
          have HE := Lib.hid hE; have HPY := Lib.hid hPY; have HMIN := Lib.hid hmin
          obtain ⟨z, hz⟩ : ∃ z, sumSl T l Y = z := ⟨_, rfl⟩
          rw [hz] at HE HMIN
          obtain ⟨L, hL⟩ : ∃ L, (l.map fun s => slackV T s Y) = L := ⟨_, rfl⟩
          have hLl : L.length ≤ 20 := by rw [← hL]; simpa using hl20
          have HLB := Lib.hid (show ∀ x ∈ L, 0 ≤ x ∧ x ≤ 24 from fun x hx => by
            rw [← hL] at hx
            obtain ⟨s, _, rfl⟩ := List.mem_map.1 hx
            have := slackV_bounds HV.out.t1 s Y
            have := HV.out.t2
            omega)
          have HZ := Lib.hid (show L.sum = z by rw [← hL]; exact hz)
          have HLL := Lib.hid hL
          clear hE hPY hY hmin hz hL
          go_wp2_with fail
          refine (Shortest_any T N l a cap w' b off HS.out HA.out).mono ?_
          rw [HE.out]
          rintro e w1 ⟨ao, c, g, rfl, hg, hI, hc1⟩
          have HC1 := Lib.hid hc1; have HG0 := Lib.hid hg; have HI0 := Lib.hid hI
          clear hg hI hc1
          go_wp2_with fail
          refine (Is_any T N l a cap b off X ar cr br or_ w1 (HS.out.chg HC1.out (fun x => x)) HA.out (HR.out.chg HC1.out (fun x => x)) HAR.out hl).mono ?_
          rintro e w2 ⟨rfl, hc2⟩
          have HC2 := Lib.hid (HC1.out.trans hc2 (fun _ x => x.elim)); have HI0' := Lib.hid (HI0.out.chg hc2 (fun x => x))
          rw [HDB.out, H0.out]
          obtain ⟨bi, hbi⟩ : ∃ bi, decide (planP (T : Int) (N : Int) l X) = bi := ⟨_, rfl⟩
          rw [hbi]
          have HBI := Lib.hid hbi
          clear hc2 hbi
          go_wp2_with fail
          refine (Is_any T N l a cap b off Y ao c g 0 w2 (HS.out.chg HC2.out (fun x => x)) HA.out HI0'.out HG0.out hYl).mono ?_
          rintro e w3 ⟨rfl, hc3⟩
          have HC3 := Lib.hid (HC2.out.trans hc3 (fun _ x => x.elim)); have HI0'' := Lib.hid (HI0'.out.chg hc3 (fun x => x))
          rw [show decide (spansE (T : Int) (N : Int) l = 0 ∧ planP (T : Int) (N : Int) l Y) = true by rw [decide_eq_true_eq]; exact ⟨H0.out, HPY.out⟩, H0.out]
          clear hc3
          go_wp2_with fail
          refine (Slack_any T N l a cap b off Y ao c g 0 w3 (HS.out.chg HC3.out (fun x => x)) HA.out HI0''.out HG0.out hYl).mono ?_
          rw [slackE_ok H0.out HPY.out.1, HLL.out]
          rintro e W5 ⟨ao1, c1, g1, rfl, hg1, hI1, hc5⟩
          have HG1 := Lib.hid hg1; have HI1 := Lib.hid hI1; have HCX := Lib.hid (HC3.out.trans hc5 (fun _ x => x.elim))
          clear hg1 hI1 hc5
          go_wp2_with fail
          go_loop [18, 19] (fun sv iv => ∃ i : Nat, i ≤ L.length ∧ iv = .int .i64 i ∧ sv = .int .i64 (L.take i).sum) (fun _ iv => L.length - (intOf iv).toNat)
          case atStart => exact ⟨0, by omega, rfl, rfl⟩
          case round =>
            obtain ⟨i, hi, rfl, rfl⟩ := hrel
            have hsb := sum_take_bound HLB.out i
            by_cases hlt : i < L.length
            · have hne : ao1 = some ⟨g1, 0, none⟩ := HG1.out.resolve_left (by intro h; simp [h] at hlt)
              subst hne
              have gk := HI1.out i hlt
              rw [Nat.zero_add] at gk
              have hst := sum_take hlt
              have hxb := HLB.out _ (List.getElem_mem hlt)
              obtain ⟨x, hx⟩ : ∃ x, L[i] = x := ⟨_, rfl⟩
              rw [hx] at gk hst hxb
              obtain ⟨z, hz⟩ : ∃ z, (L.take i).sum = z := ⟨_, rfl⟩
              rw [hz] at hst hsb ⊢
              have HST := Lib.hid hst
              clear hst hx hz
              go_wp2_with fail
              go_round
              case rel => exact ⟨i + 1, by omega, by go_num, by rw [HST.out]⟩
              case measure => simp [intOf]; omega
            · obtain rfl : i = L.length := by omega
              rw [List.take_length] at hsb ⊢
              rw [HZ.out] at hsb ⊢
              clear hlt
              cases bi with
              | false =>
                go_wp2_with fail
                refine (alive_any _).mono ?_
                rintro e w9 ⟨rfl, hc9⟩
                have HC9 := Lib.hid (HCX.out.trans hc9 (fun _ x => x.elim))
                clear hc9
                go_wp2_with fail
                go_ret
                exact ⟨rfl, HC9.out⟩
              | true =>
                have HPX := Lib.hid (of_decide_eq_true HBI.out)
                go_wp2_with fail
                refine (Slack_any T N l a cap b off X ar cr br or_ W5 (HS.out.chg HCX.out (fun x => x)) HA.out (HR.out.chg HCX.out (fun x => x)) HAR.out hl).mono ?_
                obtain ⟨L2, hL2⟩ : ∃ L2, (l.map fun s => slackV T s X) = L2 := ⟨_, rfl⟩
                have hLl2 : L2.length ≤ 20 := by rw [← hL2]; simpa using hl20
                have HLB2 := Lib.hid (show ∀ x ∈ L2, 0 ≤ x ∧ x ≤ 24 from fun x hx => by
                  rw [← hL2] at hx
                  obtain ⟨s, _, rfl⟩ := List.mem_map.1 hx
                  have := slackV_bounds HV.out.t1 s X
                  have := HV.out.t2
                  omega)
                have HZ2 := Lib.hid (show L2.sum = sumSl T l X by rw [← hL2]; rfl)
                rw [slackE_ok H0.out HPX.out.1, hL2]
                rintro e w6 ⟨ao2, c2, g2, rfl, hg2, hI2, hc6⟩
                have HG2 := Lib.hid hg2; have HI2 := Lib.hid hI2; have HC6 := Lib.hid (HCX.out.trans hc6 (fun _ x => x.elim))
                have hmin := HMIN.out X (plans_mem.2 HPX.out)
                obtain ⟨z2, hz2⟩ : ∃ z2, sumSl T l X = z2 := ⟨_, rfl⟩
                rw [hz2] at HZ2 hmin
                clear hg2 hI2 hc6 hL2 hz2 HCX
                have HCX := HC6
                go_wp2_with fail
                go_loop [21, 22] (fun sv iv => ∃ i : Nat, i ≤ L2.length ∧ iv = .int .i64 i ∧ sv = .int .i64 (L2.take i).sum) (fun _ iv => L2.length - (intOf iv).toNat)
                case atStart => exact ⟨0, by omega, rfl, rfl⟩
                case round =>
                  obtain ⟨i, hi, rfl, rfl⟩ := hrel
                  have hsb := sum_take_bound HLB2.out i
                  by_cases hlt : i < L2.length
                  · have hne : ao2 = some ⟨g2, 0, none⟩ := HG2.out.resolve_left (by intro h; simp [h] at hlt)
                    subst hne
                    have gk := HI2.out i hlt
                    rw [Nat.zero_add] at gk
                    have hst := sum_take hlt
                    have hxb := HLB2.out _ (List.getElem_mem hlt)
                    obtain ⟨x, hx⟩ : ∃ x, L2[i] = x := ⟨_, rfl⟩
                    rw [hx] at gk hst hxb
                    obtain ⟨z, hz⟩ : ∃ z, (L2.take i).sum = z := ⟨_, rfl⟩
                    rw [hz] at hst hsb ⊢
                    have HST := Lib.hid hst
                    clear hst hx hz
                    go_wp2_with fail
                    go_round
                    case rel => exact ⟨i + 1, by omega, by go_num, by rw [HST.out]⟩
                    case measure => simp [intOf]; omega
                  · obtain rfl : i = L2.length := by omega
                    rw [List.take_length] at hsb ⊢
                    rw [HZ2.out] at hsb ⊢
                    clear hlt
                    have dge : decide (z ≤ z2) = true := by rw [decide_eq_true_eq]; exact hmin
                    go_wp2_with fail
                    refine (alive_any _).mono ?_
                    rintro e w9 ⟨rfl, hc9⟩
                    have HC9 := Lib.hid (HCX.out.trans hc9 (fun _ x => x.elim))
                    clear hc9
                    go_wp2_with fail
                    go_ret
                    exact ⟨rfl, HC9.out⟩
      · have hq : (spansE t n l != 0) = true := by simpa using h0
        have H0 := Lib.hid h0
        clear h0
        go_wp2_with fail
        refine (Shortest_any t n l a cap w' b off HS.out HA.out).mono ?_
        rw [shortE_err H0.out]
        rintro e w1 ⟨ao, c, g, rfl, hg, hI, hc1⟩
        have HC1 := Lib.hid hc1
        clear hg hI hc1
        go_wp2_with fail
        refine (Is_any t n l a cap b off X ar cr br or_ w1 (HS.out.chg HC1.out (fun x => x)) HA.out (HR.out.chg HC1.out (fun x => x)) HAR.out hl).mono ?_
        rintro e w2 ⟨rfl, hc2⟩
        have HCX := Lib.hid (HC1.out.trans hc2 (fun _ x => x.elim))
        rw [show decide (spansE t n l = 0 ∧ planP t n l X) = false by rw [decide_eq_false_iff_not]; exact fun h => H0.out h.1]
        clear hc2
        go_wp2_with fail
        refine (alive_any _).mono ?_
        rintro e w9 ⟨rfl, hc9⟩
        have HC9 := Lib.hid (HCX.out.trans hc9 (fun _ x => x.elim))
        clear hc9
        go_wp2_with fail
        go_ret
        exact ⟨rfl, HC9.out⟩
  · have d40 : decide (l.length ≤ 40 ∧ X.length ≤ 40 ∧ 0 ≤ 40) = false := by rw [decide_eq_false_iff_not]; omega
    clear hf
    go_enter Try.func12, Try.ntmps12
    go_wp2_with fail
    refine (few_any a ar none l.length X.length 0 cap cr 0 w).mono ?_
    rw [d40]
    rintro e w' ⟨rfl, rfl⟩
    have HCX := Lib.hid (Chg.refl (fun _ => False) w')
    go_wp2_with fail
    refine (alive_any _).mono ?_
    rintro e w9 ⟨rfl, hc9⟩
    have HC9 := Lib.hid (HCX.out.trans hc9 (fun _ x => x.elim))
    clear hc9
    go_wp2_with fail
    go_ret
    exact ⟨rfl, HC9.out⟩
end Go.Proofs.Ytgamekcjjpjnnaa
