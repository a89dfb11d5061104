/- The reference's Rounds, walked. Its conditions are its premises. -/
import Derived.Test.YtgamekcjjpjnnaaA27
set_option linter.unusedVariables false
namespace Go.Proofs.Ytgamekcjjpjnnaa
open Go.RowKit

set_option maxRecDepth 100000 in
set_option maxHeartbeats 2000000 in
theorem rRounds_any (t n : Int) (l : List Sp) (a : Option Addr) (cap b off : Nat) (X : List Int) (ax : Option Addr) (cx bx ox : Nat) (R : List Int) (ar : Option Addr) (cr br or_ : Nat) (w : World) (hs : SpansAt w b off l) (ha : l = [] ∨ a = some ⟨b, off, none⟩)
    (hX : IntsAt w bx ox X) (hax : X = [] ∨ ax = some ⟨bx, ox, none⟩) (hXl : X.length ≤ 40) (hR : IntsAt w br or_ R) (har : R = [] ∨ ar = some ⟨br, or_, none⟩) (hRl : R.length ≤ 40) (hI : ∀ x ∈ R, I64 x) :
    Calls Try.prog 40 #[.int .i64 t, .int .i64 n, .slice a l.length cap, .slice ax X.length cx, .slice ar R.length cr] w (PairPost (roundsE t n l X R) w) := by
  have HS := Lib.hid hs; have HA := Lib.hid ha; have HX := Lib.hid hX; have HAX := Lib.hid hax; have HR := Lib.hid hR; have HAR := Lib.hid har; have HI := Lib.hid hI; clear hs ha hX hax hR har hI
  go_enter Try.func40, Try.ntmps40
  go_wp2_with fail
  refine (spans_any t n l a cap w b off HS.out HA.out).mono ?_
  rintro e w' ⟨rfl, x, rfl⟩
  have HC := Lib.hid (grow_chg w x)
  generalize w.grow x = W at HC ⊢
  by_cases h0 : spansE t n l = 0
  · have hv := valid_of h0
    rw [h0]
    obtain ⟨T, rfl⟩ : ∃ T : Nat, t = T := ⟨t.toNat, by have := hv.t1; omega⟩
    obtain ⟨N, rfl⟩ : ∃ N : Nat, n = N := ⟨n.toNat, by have := hv.n1; omega⟩
    have H0 := Lib.hid h0; have HV := Lib.hid hv
    have ht1 := hv.t1; have ht2 := hv.t2; have hn2 := hv.n2; have hl20 := hv.len
    clear h0 hv
    go_wp2_with fail
    refine (IsRing_any T N l a ar cap cr W b off br or_ R (HS.out.chg HC.out (fun x => x)) HA.out HV.out (HR.out.chg HC.out (fun x => x)) HAR.out HI.out).mono ?_
    rintro e w1 ⟨x, y, bb, rfl, hb, hxy, hc⟩
    have HB := Lib.hid hb; have HC1 := Lib.hid (HC.out.trans hc (fun _ x => x.elim))
    clear hb hc hxy
    cases bb with
    | false =>
      have HE := Lib.hid (roundsE_bad (X := X) (R := R) H0.out (fun h => by have := HB.out.2 (by have := h.1; rwa [Int.toNat_natCast] at this); cases this))
      go_wp2_with fail
      go_ret2
      exact .of HE.out HC1.out
    | true =>
      have hring := HB.out.1 rfl
      have HCH := Lib.hid hring.2.2.1
      have HRG := Lib.hid hring
      clear hring
      go_wp2_with fail
      refine (IsPlan_any l a cap b off X ax cx bx ox T N w1 HV.out (HS.out.chg HC1.out (fun x => x)) HA.out (HX.out.chg HC1.out (fun x => x)) HAX.out (by omega)).mono ?_
      rintro e w2 ⟨b2, rfl, hb2, hc2⟩
      have HB2 := Lib.hid hb2; have HC2 := Lib.hid (HC1.out.trans hc2 (fun _ x => x.elim))
      clear hb2 hc2
      cases b2 with
      | false =>
        have HE := Lib.hid (roundsE_bad (X := X) (R := R) H0.out (fun h => by have := HB2.out.2 h.2; cases this))
        go_wp2_with fail
        go_ret2
        exact .of HE.out HC2.out
      | true =>
        have hpl := HB2.out.1 rfl
        have HE := Lib.hid (roundsE_ok (X := X) (R := R) H0.out ⟨by rw [Int.toNat_natCast]; exact HRG.out, hpl⟩)
        have hlen := hpl.1.1
        have hn1 := HV.out.n1
        have hne : ax = some ⟨bx, ox, none⟩ := HAX.out.resolve_left (by intro h; rw [h] at hlen; simp at hlen; omega)
        subst hne
        have HH := Lib.hid hpl.1
        clear hpl hlen hn1
        go_wp2_with fail
        go_loopg [16, 17] R.length (fun g sv iv wr => ∃ i : Nat, i ≤ R.length ∧ g = R.length - i ∧ iv = .int .i64 i ∧ sv = .int .i64 (sumT T l X R i) ∧ Chg (fun _ => False) w wr)
        case atStart => exact ⟨0, by omega, by omega, rfl, rfl, HC2.out⟩
        case round =>
          obtain ⟨i, him, rfl, rfl, rfl, hcg⟩ := hrel
          have HCG := Lib.hid hcg
          have hsb := sumT_bounds (X := X) HV.out (HCH.out.mono him).ok
          obtain ⟨sm, hsm⟩ : ∃ sm, sumT T l X R i = sm := ⟨_, rfl⟩
          rw [hsm] at hsb ⊢
          have HSM := Lib.hid hsm
          clear hcg hsm
          by_cases hlt : i < R.length
          · have hne2 : ar = some ⟨br, or_, none⟩ := HAR.out.resolve_left (by intro h; simp [h] at hlt)
            subst hne2
            have gk := HR.out.chg HCG.out (fun x => x) i hlt
            rw [hr_get] at gk
            have hok := HCH.out.ok i hlt
            obtain ⟨k, hk⟩ : ∃ k, hr R i = k := ⟨_, rfl⟩
            rw [hk] at gk hok
            have HK := Lib.hid hk
            clear hk
            have hklt : k.natAbs - 1 < l.length := by obtain ⟨_, _, _⟩ := hok; omega
            have hne3 : a = some ⟨b, off, none⟩ := HA.out.resolve_left (by intro h; simp [h] at hklt)
            subst hne3
            obtain ⟨c0, c1, c2, c3⟩ := HS.out.chg HCG.out (fun x => x) _ hklt
            have erw : l[k.natAbs - 1] = rawSp l k := by unfold rawSp; rw [List.getD_eq_getElem?_getD, List.getElem?_eq_getElem hklt]; rfl
            rw [erw] at c0 c1 c2 c3
            have hrb := HV.out.ok _ (raw_ok HV.out hok)
            have htv : termV T l X k = if decide (0 < k) = true then (rawSp l k).lo + slackV T (rawSp l k) X else -((rawSp l k).lo + slackV T (rawSp l k) X) := by unfold termV; simp
            generalize rawSp l k = s at htv hrb c0 c1 c2 c3 erw
            have hlen := HH.out.1
            have hx := inHours_hr HH.out (i := s.src.toNat) (by omega)
            have hy := inHours_hr HH.out (i := s.dst.toNat) (by omega)
            have hXw := HX.out.chg HCG.out (fun x => x)
            have hcx := hXw s.src.toNat (by omega)
            have hcy := hXw s.dst.toNat (by omega)
            rw [hr_get] at hcx hcy
            obtain ⟨x, hxx⟩ : ∃ x, hr X s.src.toNat = x := ⟨_, rfl⟩
            obtain ⟨y, hyy⟩ : ∃ y, hr X s.dst.toNat = y := ⟨_, rfl⟩
            rw [hxx] at hx hcx
            rw [hyy] at hy hcy
            have hkx : s.src < X.length := by omega
            have hky : s.dst < X.length := by omega
            have hqb := slackV_bounds (show (1 : Int) ≤ T by omega) s X
            obtain ⟨q, hq⟩ : ∃ q, slackV T s X = q := ⟨_, rfl⟩
            have hsv : (y - x - s.lo) % (T : Int) = q := by rw [← hq]; unfold slackV; rw [hxx, hyy]
            rw [hq] at hqb htv
            have hal : Chg (fun _ => False) wr (wr.alloc (Obj.cells #[.int .i64 s.src, .int .i64 s.dst, .int .i64 s.lo, .int .i64 s.hi] 32)) := (Chg.refl _ wr).alloc _
            have HSL := Lib.hid (fun (z : Ext) => slack_region T s x y bx ox X.length cx _ z ht1 (by omega) (by omega) (by omega) (by omega) (by omega) hkx hky (by omega) (by omega) (by omega) (hal.cell_some hcx (fun x => x)) (hal.cell_some hcy (fun x => x)))
            simp only [hsv] at HSL
            have HBK := Lib.hid (Blk.new wr #[.int .i64 s.src, .int .i64 s.dst, .int .i64 s.lo, .int .i64 s.hi] 32)
            have HCW := Lib.hid (HCG.out.alloc (Obj.cells #[.int .i64 s.src, .int .i64 s.dst, .int .i64 s.lo, .int .i64 s.hi] 32))
            have hab : -700 ≤ s.lo + q ∧ s.lo + q ≤ 700 := by omega
            have hwr : IntKind.i64.wrap (s.lo + q) = s.lo + q := by rw [IntKind.wrap_i64]; omega
            obtain ⟨K, hK⟩ : ∃ K, k.natAbs - 1 = K := ⟨_, rfl⟩
            rw [hK] at c0 c1 c2 c3 hklt
            clear erw hq hsv hxx hyy hXw hcx hcy hal hlen
            by_cases hpos : 0 < k
            · obtain rfl : k = (K : Int) + 1 := by omega
              rw [if_pos (by rw [decide_eq_true_eq]; omega)] at htv
              have HTV := Lib.hid htv
              have dp : decide (0 < (K : Int) + 1) = true := by rw [decide_eq_true_eq]; exact hpos
              have hwr2 : IntKind.i64.wrap (sm + (s.lo + q)) = sm + (s.lo + q) := by rw [IntKind.wrap_i64]; omega
              have HW1 := Lib.hid hwr; have HW2 := Lib.hid hwr2
              clear htv hok hK hpos hwr hwr2
              go_wp2_with fail
              generalize (wr.alloc (Obj.cells #[.int .i64 s.src, .int .i64 s.dst, .int .i64 s.lo, .int .i64 s.hi] 32)) = W4 at HSL HBK HCW ⊢
              have g0 := World.grow_cell (HBK.out.cell_some (i := 0) rfl)
              have g1 := World.grow_cell (HBK.out.cell_some (i := 1) rfl)
              have g2 := World.grow_cell (HBK.out.cell_some (i := 2) rfl)
              have g3 := World.grow_cell (HBK.out.cell_some (i := 3) rfl)
              have hwr := HW1.out
              have hwr2 := HW2.out
              clear c0 c1 c2 c3
              refine wp_region_grow_lit (by kernel_rfl) (by kernel_rfl) ?_
              repeat (go_big_quiet_step ((go_at_call 63; exact Calls.grow_of (HSL.out _))))
              refine wpQuiet_nil ?_
              intro _ hw'
              obtain ⟨nq, hw''⟩ := hw'
              subst hw''
              have HG := Lib.hid (HCW.out.grow nq)
              clear g0 g1 g2 g3 hwr hwr2
              go_wp2_with fail
              go_roundg (R.length - (i + 1))
              case measure => omega
              case rel => exact ⟨i + 1, by omega, rfl, by go_num, by rw [sumT, HSM.out, HK.out, HTV.out], HG.out⟩
            · obtain rfl : k = -(K : Int) - 1 := by obtain ⟨_, _, _⟩ := hok; omega
              rw [if_neg (by rw [decide_eq_true_eq]; omega)] at htv
              have HTV := Lib.hid htv
              have dp : decide (0 < -(K : Int) - 1) = false := by rw [decide_eq_false_iff_not]; exact hpos
              have hneg : -(-(K : Int) - 1) = K + 1 := by omega
              have hwr2 : IntKind.i64.wrap (sm - (s.lo + q)) = sm - (s.lo + q) := by rw [IntKind.wrap_i64]; omega
              have HW1 := Lib.hid hwr; have HW2 := Lib.hid hwr2
              clear htv hok hK hpos hwr hwr2
              go_wp2_with fail
              generalize (wr.alloc (Obj.cells #[.int .i64 s.src, .int .i64 s.dst, .int .i64 s.lo, .int .i64 s.hi] 32)) = W4 at HSL HBK HCW ⊢
              have g0 := World.grow_cell (HBK.out.cell_some (i := 0) rfl)
              have g1 := World.grow_cell (HBK.out.cell_some (i := 1) rfl)
              have g2 := World.grow_cell (HBK.out.cell_some (i := 2) rfl)
              have g3 := World.grow_cell (HBK.out.cell_some (i := 3) rfl)
              have hwr := HW1.out
              have hwr2 := HW2.out
              clear c0 c1 c2 c3
              refine wp_region_grow_lit (by kernel_rfl) (by kernel_rfl) ?_
              repeat (go_big_quiet_step ((go_at_call 63; exact Calls.grow_of (HSL.out _))))
              refine wpQuiet_nil ?_
              intro _ hw'
              obtain ⟨nq, hw''⟩ := hw'
              subst hw''
              have HG := Lib.hid (HCW.out.grow nq)
              clear g0 g1 g2 g3 hwr hwr2
              go_wp2_with fail
              go_roundg (R.length - (i + 1))
              case measure => omega
              case rel => exact ⟨i + 1, by omega, rfl, by go_num, by rw [sumT, HSM.out, HK.out, HTV.out]; go_num, HG.out⟩
          · obtain rfl : i = R.length := by omega
            clear hlt
            go_wp2_with fail
            go_ret2
            exact .of (by rw [HE.out, HSM.out]) HCG.out
  · have hq : (spansE t n l != 0) = true := by simpa using h0
    have H0 := Lib.hid (roundsE_err (X := X) (R := R) h0); clear h0
    go_wp2_with fail
    go_ret2
    exact .of H0.out HC.out
end Go.Proofs.Ytgamekcjjpjnnaa
