/- Alike, walked. Its conditions are its premises. -/
import Derived.Test.YtilacamhjibneaaDoorV43
set_option linter.unusedVariables false
namespace Go.Proofs.YtilacamhjibneaaDoor
open Go.RowKit

/-- The sum of the tally a year later. -/
theorem sum_next {V : List (List Nat)} (hV : WF V) {t : List Nat} (ht : ∀ c ∈ t, c < V.length) {y : Nat} (hs : ln V t y ≤ 100000) : sumV (aftV V (cntV V.length (gen V y t))) = ln V t (y + 1) := by
  have h1 := sum_gen hV (gen_lt hV y t ht) (by unfold ln at hs; unfold lim; omega) 1
  have h2 : agedF V (gen V y t) 1 = aftV V (cntV V.length (gen V y t)) := rfl
  rw [h2] at h1
  rw [h1]
  have h3 : gen V 1 (gen V y t) = gen V (y + 1) t := (gen_succ V y t).symm
  rw [h3]
  have h4 := grow1_len hV (gen V y t)
  have h5 : (gen V (y + 1) t).length ≤ 800000 := by rw [gen_succ]; unfold ln at hs; omega
  unfold ln lim
  omega

set_option maxRecDepth 100000 in
set_option maxHeartbeats 1000000 in
theorem alike_ok (V : List (List Nat)) (hV : WF V) (t : List Nat) (ht : ∀ c ∈ t, c < V.length) (hl : t.length ≤ 30) (b off cap : Nat) (W : List (List Nat)) (hW : WF W) (u : List Nat) (hu : ∀ c ∈ u, c < W.length) (hul : u.length ≤ 30) (b2 off2 cap2 : Nat) (w : World) (hv : VAt w b off V) (hw : VAt w b2 off2 W) :
    Calls Tryd.prog 39 #[.slice (some ⟨b, off, none⟩) V.length cap, .string (str t), .slice (some ⟨b2, off2, none⟩) W.length cap2, .string (str u)] w fun e w' => e = .returned (alkF V t W u 12 0) ∧ Chg (fun _ => False) w w' := by
  have hn6 := hV.le
  have hm6 := hW.le
  have HTW := Lib.hid (two_ok V hV t ht hl b off cap W hW u hu hul b2 off2 cap2 w hv hw)
  have HV := Lib.hid hv; have HW := Lib.hid hw; have HWV := Lib.hid hV; have HWW := Lib.hid hW; have HT := Lib.hid ht; have HU := Lib.hid hu
  have HL0 := Lib.hid (show ln V t 0 ≤ 100000 from by show t.length ≤ _; omega)
  have HM0 := Lib.hid (show ln W u 0 ≤ 100000 from by show u.length ≤ _; omega)
  obtain ⟨R, hR⟩ : ∃ R, alkF V t W u 12 0 = R := ⟨_, rfl⟩
  have HR := Lib.hid hR
  rw [hR]
  clear hv hw hV hW ht hu hR
  go_enter Tryd.func39, Tryd.ntmps39
  go_wp2_with fail
  refine HTW.out.mono ?_
  rintro e w1 ⟨rfl, rfl⟩
  go_wp2_with fail
  go_loopg [28, 1, 3] 12 (fun gm kv sv tv wr => ∃ y : Nat, y < 12 ∧ gm = 12 - y ∧ kv = .int .i64 y ∧ sv = .string (str (gen V y t)) ∧ tv = .string (str (gen W y u)) ∧ ln V t y ≤ 100000 ∧ ln W u y ≤ 100000 ∧ alkF V t W u (12 - y) y = R ∧ Chg (fun _ => False) w1 wr)
  case atStart => exact ⟨0, by omega, by omega, rfl, rfl, rfl, HL0.out, HM0.out, HR.out, Chg.refl _ _⟩
  case round =>
    obtain ⟨y, hy, rfl, rfl, rfl, rfl, h1, h2, hr, hc⟩ := hrel
    have H1 := Lib.hid h1; have H2 := Lib.hid h2; have HRR := Lib.hid hr; have HC := Lib.hid hc
    clear h1 h2 hr hc
    have d0 : decide ((y : Int) < 12) = true := by simp; omega
    obtain ⟨f, hf⟩ : ∃ f, 12 - y = f + 1 := ⟨11 - y, by omega⟩
    have HF := Lib.hid hf
    rw [hf] at HRR
    have HGV := Lib.hid (gen_lt HWV.out y t HT.out)
    have HGW := Lib.hid (gen_lt HWW.out y u HU.out)
    have HSN1 := Lib.hid (sum_next HWV.out HT.out H1.out)
    have HSN2 := Lib.hid (sum_next HWW.out HU.out H2.out)
    have HG1 := Lib.hid (gen_succ V y t); have HG2 := Lib.hid (gen_succ W y u)
    have HLN1 := Lib.hid (show (gen V y t).length ≤ 100000 from H1.out); have HLN2 := Lib.hid (show (gen W y u).length ≤ 100000 from H2.out)
    clear hf
    have HCV := Lib.hid (fun w => counts_any V.length (gen V y t) (some ⟨b, off, none⟩) cap w (by omega) HGV.out (by have := HLN1.out; omega))
    have HCW := Lib.hid (fun w => counts_any W.length (gen W y u) (some ⟨b2, off2, none⟩) cap2 w (by omega) HGW.out (by have := HLN2.out; omega))
    have HNV := Lib.hid (fun w hv => next_any V HWV.out (gen V y t) HGV.out (by have := HLN1.out; omega) b off cap w hv)
    have HNW := Lib.hid (fun w hv => next_any W HWW.out (gen W y u) HGW.out (by have := HLN2.out; omega) b2 off2 cap2 w hv)
    rw [← HG1.out] at HNV
    rw [← HG2.out] at HNW
    obtain ⟨sa, hsa⟩ : ∃ sa, str (gen V y t) = sa := ⟨_, rfl⟩
    obtain ⟨sb, hsb⟩ : ∃ sb, str (gen W y u) = sb := ⟨_, rfl⟩
    have HSA := Lib.hid hsa; have HSB := Lib.hid hsb
    rw [hsa] at HCV HNV ⊢
    rw [hsb] at HCW HNW ⊢
    clear hsa hsb
    by_cases heq : gen V y t = gen W y u
    · have HRN := Lib.hid ((alkF_eq H1.out heq).symm.trans HRR.out)
      obtain rfl : sa = sb := by rw [← HSA.out, ← HSB.out, heq]
      clear heq
      by_cases hy11 : y = 11
      · subst hy11
        have HF0 : Hid (f = 0) := Lib.hid (by have := HF.out; omega)
        have HRP : Hid (.tuple #[.int .i64 0, .int .i64 10] = R) := Lib.hid (by have h := HRN.out; rw [HF0.out] at h; exact h)
        go_wp2_with fail
        go_ret2
        exact ⟨by rw [← HRP.out]; rfl, HC.out⟩
      · have hy11' : ¬ (y : Int) = 11 := by omega
        go_wp2_with fail
        refine (HCV.out wr).mono ?_
        rintro e w2 ⟨rfl, hb2, hc2⟩
        obtain ⟨gx, hgx⟩ : ∃ gx, wr.heap.size = gx := ⟨_, rfl⟩
        rw [hgx] at hb2 ⊢
        have HB2 := Lib.hid hb2; have HC2 := Lib.hid (HC.out.trans hc2 (fun _ x => x.elim))
        clear hb2 hc2 hgx
        have HAV := Lib.hid (after_any V HWV.out (cntV V.length (gen V y t)) b off cap gx 0 V.length w2 (HV.out.chg HC2.out (fun x => x)) (nats_of_blk HB2.out) (cntV_len _ _) (fun z hz => by have h := cntF_le V.length (gen V y t) _ z hz; have := HLN1.out; unfold lim; omega))
        go_wp2_with fail
        refine HAV.out.mono ?_
        rintro e w3 ⟨rfl, hb3, hc3⟩
        obtain ⟨g3, hg3⟩ : ∃ g3, w2.heap.size = g3 := ⟨_, rfl⟩
        rw [hg3] at hb3 ⊢
        have HB3 := Lib.hid hb3; have HC3 := Lib.hid (HC2.out.trans hc3 (fun _ x => x.elim))
        clear hb3 hc3 hg3
        have HS3 := Lib.hid (sum_any (aftV V (cntV V.length (gen V y t))) g3 0 V.length w3 (nats_of_blk HB3.out) (aftF_le V _ _) (by rw [aftV, aftF_len]; omega))
        rw [show (aftV V (cntV V.length (gen V y t))).length = V.length from aftF_len V _ _, HSN1.out] at HS3
        go_wp2_with fail
        refine HS3.out.mono ?_
        rintro e w4 ⟨rfl, rfl⟩
        go_wp2_with fail
        refine (HCW.out w4).mono ?_
        rintro e w5 ⟨rfl, hb5, hc5⟩
        obtain ⟨g5, hg5⟩ : ∃ g5, w4.heap.size = g5 := ⟨_, rfl⟩
        rw [hg5] at hb5 ⊢
        have HB5 := Lib.hid hb5; have HC5 := Lib.hid (HC3.out.trans hc5 (fun _ x => x.elim))
        clear hb5 hc5 hg5
        have HAW := Lib.hid (after_any W HWW.out (cntV W.length (gen W y u)) b2 off2 cap2 g5 0 W.length w5 (HW.out.chg HC5.out (fun x => x)) (nats_of_blk HB5.out) (cntV_len _ _) (fun z hz => by have h := cntF_le W.length (gen W y u) _ z hz; have := HLN2.out; unfold lim; omega))
        go_wp2_with fail
        refine HAW.out.mono ?_
        rintro e w6 ⟨rfl, hb6, hc6⟩
        obtain ⟨g6, hg6⟩ : ∃ g6, w5.heap.size = g6 := ⟨_, rfl⟩
        rw [hg6] at hb6 ⊢
        have HB6 := Lib.hid hb6; have HC6 := Lib.hid (HC5.out.trans hc6 (fun _ x => x.elim))
        clear hb6 hc6 hg6
        have HS6 := Lib.hid (sum_any (aftV W (cntV W.length (gen W y u))) g6 0 W.length w6 (nats_of_blk HB6.out) (aftF_le W _ _) (by rw [aftV, aftF_len]; omega))
        rw [show (aftV W (cntV W.length (gen W y u))).length = W.length from aftF_len W _ _, HSN2.out] at HS6
        obtain ⟨f2, hf2⟩ : ∃ f2, f = f2 + 1 := ⟨f - 1, by have := HF.out; omega⟩
        have HF2 := Lib.hid hf2
        rw [hf2] at HRN
        clear hf2
        have HX1 := Lib.hid (fun h => (alkF_len (f := f2) (V := V) (t := t) (W := W) (u := u) (y := y + 1) h).symm.trans HRN.out)
        have HX2 := Lib.hid (fun h h' => (alkF_full (f := f2) (V := V) (t := t) (W := W) (u := u) (y := y + 1) h h').symm.trans HRN.out)
        obtain ⟨p, hp⟩ : ∃ p, ln V t (y + 1) = p := ⟨_, rfl⟩
        obtain ⟨q, hq⟩ : ∃ q, ln W u (y + 1) = q := ⟨_, rfl⟩
        have HP := Lib.hid hp; have HQ := Lib.hid hq
        rw [hp] at HS3; rw [hq] at HS6
        rw [hp, hq] at HX1 HX2
        rw [hp]
        clear hp hq
        by_cases hpq : p = q
        · subst hpq
          have HX2' := Lib.hid (HX2.out rfl)
          by_cases hbig : 100000 < p
          · have d5 : decide ((100000 : Int) < (p : Int)) = true := by simp; omega
            have HRF := Lib.hid (HX2'.out hbig)
            clear HX1 HX2 HX2'
            go_wp2_with fail
            refine HS6.out.mono ?_
            rintro e w7 ⟨rfl, rfl⟩
            go_wp2_with fail
            go_ret2
            exact ⟨by rw [← HRF.out]; rfl, HC6.out⟩
          · have d5 : decide ((100000 : Int) < (p : Int)) = false := by simp; omega
            clear HX1 HX2 HX2'
            go_wp2_with fail
            refine HS6.out.mono ?_
            rintro e w7 ⟨rfl, rfl⟩
            go_wp2_with fail
            refine (HNV.out w7 (HV.out.chg HC6.out (fun x => x))).mono ?_
            rintro e w8 ⟨rfl, hb8⟩
            have HC8 := Lib.hid (HC6.out.trans (Chg.of_below (S := fun _ => False) hb8) (fun _ x => x.elim))
            clear hb8
            go_wp2_with fail
            refine (HNW.out w8 (HW.out.chg HC8.out (fun x => x))).mono ?_
            rintro e w9 ⟨rfl, hb9⟩
            have HC9 := Lib.hid (HC8.out.trans (Chg.of_below (S := fun _ => False) hb9) (fun _ x => x.elim))
            clear hb9
            go_wp2_with fail
            go_roundg (12 - (y + 1))
            case measure => omega
            case rel => exact ⟨y + 1, by omega, rfl, by go_num, rfl, rfl, by rw [HP.out]; omega, by rw [HQ.out]; omega, by rw [show 12 - (y + 1) = f2 + 1 by have := HF.out; have := HF2.out; omega]; exact HRN.out, HC9.out⟩
        · have hpq' : ¬ (p : Int) = (q : Int) := by omega
          have HRF := Lib.hid (HX1.out hpq)
          clear HX1 HX2
          go_wp2_with fail
          refine HS6.out.mono ?_
          rintro e w7 ⟨rfl, rfl⟩
          go_wp2_with fail
          go_ret2
          exact ⟨by rw [← HRF.out]; rfl, HC6.out⟩
    · have HRN := Lib.hid ((alkF_ne H1.out heq).symm.trans HRR.out)
      have hst : (sa == sb) = false := by
        have h : ¬ sa = sb := fun e => heq (str_inj (fun c hc => by have := HGV.out c hc; omega) (fun c hc => by have := HGW.out c hc; omega) (by rw [HSA.out, HSB.out, e]))
        cases hb : (sa == sb) with
        | false => rfl
        | true =>
          exfalso
          apply h
          apply ByteArray.ext
          cases sa with | mk a => cases sb with | mk b => exact eq_of_beq (show (a == b) = true from hb)
      have hst2 : (sa.toList == sb.toList) = false := by rw [← beq_toListBytes]; exact hst
      clear hst
      go_wp2_with fail
      go_ret2
      exact ⟨by rw [← HRN.out]; rfl, HC.out⟩
end Go.Proofs.YtilacamhjibneaaDoor
