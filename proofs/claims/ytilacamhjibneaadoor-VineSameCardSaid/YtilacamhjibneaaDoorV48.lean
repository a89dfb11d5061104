/- Alike of the reference, walked. Its conditions are its premises. -/
import Derived.Test.YtilacamhjibneaaDoorV47
set_option linter.unusedVariables false
namespace Go.Proofs.YtilacamhjibneaaDoor
open Go.RowKit

theorem bytes_ne {sa sb : ByteArray} (h : ¬ sa = sb) : (sa == sb) = false := by
  cases hb : (sa == sb) with
  | false => rfl
  | true =>
    exfalso
    apply h
    apply ByteArray.ext
    cases sa with | mk a => cases sb with | mk b => exact eq_of_beq (show (a == b) = true from hb)
set_option maxRecDepth 100000 in
set_option maxHeartbeats 1000000 in
theorem ralike_ok (V : List (List Nat)) (hV : WF V) (t : List Nat) (ht : ∀ c ∈ t, c < V.length) (hl : t.length ≤ 30) (b off cap : Nat) (W : List (List Nat)) (hW : WF W) (u : List Nat) (hu : ∀ c ∈ u, c < W.length) (hul : u.length ≤ 30) (b2 off2 cap2 : Nat) (w : World) (hv : VAt w b off V) (hw : VAt w b2 off2 W) :
    Calls Tryd.prog 40 #[.slice (some ⟨b, off, none⟩) V.length cap, .string (str t), .slice (some ⟨b2, off2, none⟩) W.length cap2, .string (str u)] w fun e w' => e = .returned (alkF V t W u 12 0) ∧ Chg (fun _ => False) w w' := by
  have hn6 := hV.le
  have hm6 := hW.le
  have HBO := Lib.hid (both_ok V hV t ht hl b off cap W hW u hu hul b2 off2 cap2 w hv hw)
  have HV := Lib.hid hv; have HW := Lib.hid hw; have HWV := Lib.hid hV; have HWW := Lib.hid hW; have HT := Lib.hid ht; have HU := Lib.hid hu
  obtain ⟨R, hR⟩ : ∃ R, alkF V t W u 12 0 = R := ⟨_, rfl⟩
  have HR := Lib.hid hR
  rw [hR]
  clear hv hw hV hW ht hu hR
  go_enter Tryd.func40, Tryd.ntmps40
  go_wp2_with fail
  refine HBO.out.mono ?_
  rintro e w1 ⟨rfl, rfl⟩
  go_wp2_with fail
  go_loopg [11] 12 (fun gm kv wr => ∃ y : Nat, y ≤ 12 ∧ gm = 12 - y ∧ kv = .int .i64 y ∧ alkF V t W u (12 - y) y = R ∧ Chg (fun _ => False) w1 wr)
  case atStart => exact ⟨0, by omega, by omega, rfl, HR.out, Chg.refl _ _⟩
  case round =>
    obtain ⟨y, hy, rfl, rfl, hr, hc⟩ := hrel
    have HRR := Lib.hid hr; have HC := Lib.hid hc
    clear hr hc
    by_cases hy12 : y < 12
    · have d0 : decide ((y : Int) < 12) = true := by simp; omega
      obtain ⟨f, hf⟩ : ∃ f, 12 - y = f + 1 := ⟨11 - y, by omega⟩
      have HF := Lib.hid hf
      rw [hf] at HRR
      clear hf
      have HTV := Lib.hid (table_any V HWV.out y (by omega) b off cap wr (HV.out.chg HC.out (fun x => x)))
      go_wp2_with fail
      refine HTV.out.mono ?_
      rintro e w2 ⟨⟨ga, ca, rfl, ha⟩, hc2⟩
      have HA := Lib.hid ha; have HC2 := Lib.hid (HC.out.trans hc2 (fun _ x => x.elim))
      clear ha hc2
      go_wp2_with fail
      refine (table_any W HWW.out y (by omega) b2 off2 cap2 w2 (HW.out.chg HC2.out (fun x => x))).mono ?_
      rintro e w3 ⟨⟨gb, cb, rfl, hb⟩, hc3⟩
      have HB := Lib.hid hb; have HA3 := Lib.hid (HA.out.chg hc3); have HC3 := Lib.hid (HC2.out.trans hc3 (fun _ x => x.elim))
      clear hb hc3
      obtain ⟨g1, c1, t1, t2⟩ := HA3.out y (Nat.le_refl _)
      obtain ⟨g2, c2, u1, u2⟩ := HB.out y (Nat.le_refl _)
      rw [Nat.zero_add] at t1 u1
      have HL1 := Lib.hid (long_any t (tab V y) V.length (by omega) HT.out (tab_len V y) (tab_le V y) (by omega) g1 c1 w3 t2)
      have HL2 := Lib.hid (long_any u (tab W y) W.length (by omega) HU.out (tab_len W y) (tab_le W y) (by omega) g2 c2 w3 u2)
      rw [lng_ln HWV.out HT.out hl (by omega)] at HL1
      rw [lng_ln HWW.out HU.out hul (by omega)] at HL2
      have hyM : (y : Int) < ((y + 1 : Nat) : Int) := by omega
      obtain ⟨M, hM⟩ : ∃ M, y + 1 = M := ⟨_, rfl⟩
      have HMM := Lib.hid hM
      rw [hM] at hyM ⊢
      clear t2 u2 hM
      have HX1 := Lib.hid (fun h => (alkF_len (f := f) (V := V) (t := t) (W := W) (u := u) (y := y) h).symm.trans HRR.out)
      have HX2 := Lib.hid (fun h h' => (alkF_full (f := f) (V := V) (t := t) (W := W) (u := u) (y := y) h h').symm.trans HRR.out)
      have HX3 := Lib.hid (fun h h' => (alkF_ne (f := f) (V := V) (t := t) (W := W) (u := u) (y := y) h h').symm.trans HRR.out)
      have HX4 := Lib.hid (fun h h' => (alkF_eq (f := f) (V := V) (t := t) (W := W) (u := u) (y := y) h h').symm.trans HRR.out)
      obtain ⟨p, hp⟩ : ∃ p, ln V t y = p := ⟨_, rfl⟩
      obtain ⟨q, hq⟩ : ∃ q, ln W u y = q := ⟨_, rfl⟩
      have HP := Lib.hid hp; have HQ := Lib.hid hq
      rw [hp] at HL1; rw [hq] at HL2
      rw [hp, hq] at HX1 HX2
      rw [hp] at HX3 HX4
      clear hp hq
      by_cases hpq : p = q
      · subst hpq
        have HX2' := Lib.hid (HX2.out rfl)
        by_cases hbig : 100000 < p
        · have HRF := Lib.hid (HX2'.out hbig)
          have d5 : decide (100000 < p) = true := by simpa using hbig
          clear HX1 HX2 HX2' HX3 HX4
          go_wp2_with fail
          refine HL1.out.mono ?_
          rintro e w4 ⟨rfl, rfl⟩
          go_wp2_with fail
          refine HL2.out.mono ?_
          rintro e w4 ⟨rfl, rfl⟩
          go_wp2_with fail
          go_ret2
          exact ⟨by rw [← HRF.out]; rfl, HC3.out⟩
        · have d5 : decide (100000 < p) = false := by simpa using hbig
          clear HX1 HX2 HX2'
          go_wp2_with fail
          refine HL1.out.mono ?_
          rintro e w4 ⟨rfl, rfl⟩
          go_wp2_with fail
          refine HL2.out.mono ?_
          rintro e w4 ⟨rfl, rfl⟩
          go_upto_region 13 with (fail)
          go_cut [62] from 50 to 62 (fun cv wx => ∃ x : Bool, cv = .bool x ∧ (x = true ↔ ¬ gen V y t = gen W y u) ∧ Chg (fun _ => False) w1 wx)
          case first =>
            have HD1 := Lib.hid (fun (wz : World) (hz : Chg (fun _ => False) w4 wz) => down_any V HWV.out wz b off cap (HV.out.chg (HC3.out.trans hz (fun _ x => x.elim)) (fun x => x)) ga ca M y (HA3.out.chg hz) (by have := HMM.out; omega) (by omega) y (Nat.le_refl _) t [] HT.out (by omega) (by show (0 : Nat) + (gen V y t).length ≤ _; have h : (gen V y t).length = p := HP.out; omega) (.slice none 0 0) wz (Chg.refl _ _) (.inl ⟨rfl, rfl⟩))
            have HD2 := Lib.hid (fun (wz : World) (hz : Chg (fun _ => False) w4 wz) => down_any W HWW.out wz b2 off2 cap2 (HW.out.chg (HC3.out.trans hz (fun _ x => x.elim)) (fun x => x)) gb cb M y (HB.out.chg hz) (by have := HMM.out; omega) (by omega) y (Nat.le_refl _) u [] HU.out (by omega) (by show (0 : Nat) + (gen W y u).length ≤ _; have h : (gen W y u).length = p := HQ.out; omega) (.slice none 0 0) wz (Chg.refl _ _) (.inl ⟨rfl, rfl⟩))
            have HLA := Lib.hid (show ∀ c ∈ gen V y t, c < 100 from fun c h => by have := gen_lt HWV.out y t HT.out c h; omega)
            have HLB := Lib.hid (show ∀ c ∈ gen W y u, c < 100 from fun c h => by have := gen_lt HWW.out y u HU.out c h; omega)
            simp only [List.nil_append] at HD1 HD2
            have HEQ := Lib.hid (show str (gen V y t) = str (gen W y u) ↔ gen V y t = gen W y u from ⟨fun h => str_inj HLA.out HLB.out h, fun h => by rw [h]⟩)
            obtain ⟨sa, hsa⟩ : ∃ sa, str (gen V y t) = sa := ⟨_, rfl⟩
            obtain ⟨sb, hsb⟩ : ∃ sb, str (gen W y u) = sb := ⟨_, rfl⟩
            have HCA := Lib.hid (fun (wz : World) (base : Nat) (v : Value) (h : OutB wz base v (gen V y t)) => hsa ▸ conv_out h HLA.out)
            have HCB := Lib.hid (fun (wz : World) (base : Nat) (v : Value) (h : OutB wz base v (gen W y u)) => hsb ▸ conv_out h HLB.out)
            rw [hsa, hsb] at HEQ
            have hz0 : Chg (fun _ => False) w4 w4.drew := (Chg.refl _ _).drew
            clear hsa hsb
            go_region_with
              (first
                | (go_at_call 75; with_reducible refine (HD1.out _ hz0).mono ?_; rintro e xa ⟨⟨va, rfl, hoa⟩, hca⟩; have ea := HCA.out _ _ _ hoa)
                | (go_at_call 75; with_reducible refine (HD2.out _ hz0).mono ?_; rintro e xb ⟨⟨vb, rfl, hob⟩, hcb⟩; have eb := HCB.out _ _ _ hob)
                | (go_at_call 75; with_reducible refine (HD1.out _ (hz0.trans hcb (fun _ x => x.elim))).mono ?_; rintro e xa ⟨⟨va, rfl, hoa⟩, hca⟩; have ea := HCA.out _ _ _ hoa; have eb2 := HCB.out _ _ _ (hob.chg hca (fun _ _ x => x)))
                | (go_at_call 75; with_reducible refine (HD2.out _ (hz0.trans hca (fun _ x => x.elim))).mono ?_; rintro e xb ⟨⟨vb, rfl, hob⟩, hcb⟩; have eb := HCB.out _ _ _ hob; have ea2 := HCA.out _ _ _ (hoa.chg hcb (fun _ _ x => x))))
            all_goals
              go_wp2_with fail
              go_meet
              case rel =>
                have hch : Chg (fun _ => False) w1 xb := HC3.out.trans ((hz0.trans hca (fun _ x => x.elim)).trans hcb (fun _ x => x.elim)) (fun _ x => x.elim)
                refine ⟨_, rfl, ?_, hch⟩
                rw [← HEQ.out]
                by_cases h : sa = sb
                · simp [h]
                · have hf : (sa.toList == sb.toList) = false := by rw [← beq_toListBytes]; exact bytes_ne h
                  rw [hf]
                  simp [h]
          case rest =>
            obtain ⟨x, rfl, hx, hcx⟩ := hcut
            have HCX := Lib.hid hcx
            cases x
            · have heq : gen V y t = gen W y u := by
                by_cases h : gen V y t = gen W y u
                · exact h
                · exact absurd (hx.2 h) (by simp)
              have HRN := Lib.hid (HX4.out (by omega) heq)
              clear hx hcx HX3 HX4 heq
              go_wp2_with fail
              go_roundg (12 - (y + 1))
              case measure => omega
              case rel => exact ⟨y + 1, by omega, rfl, by go_num, by rw [show 12 - (y + 1) = f by have := HF.out; omega]; exact HRN.out, HCX.out⟩
            · have HRN := Lib.hid (HX3.out (by omega) (hx.1 rfl))
              clear hx hcx HX3 HX4
              go_wp2_with fail
              go_ret2
              exact ⟨by rw [← HRN.out]; rfl, HCX.out⟩
      · have hpq' : ¬ (p : Int) = (q : Int) := by omega
        have HRF := Lib.hid (HX1.out hpq)
        clear HX1 HX2 HX3 HX4
        go_wp2_with fail
        refine HL1.out.mono ?_
        rintro e w4 ⟨rfl, rfl⟩
        go_wp2_with fail
        refine HL2.out.mono ?_
        rintro e w4 ⟨rfl, rfl⟩
        go_wp2_with fail
        go_ret2
        exact ⟨by rw [← HRF.out]; rfl, HC3.out⟩
    · obtain rfl : y = 12 := by omega
      have HRP : Hid (.tuple #[.int .i64 0, .int .i64 10] = R) := Lib.hid HRR.out
      go_wp2_with fail
      go_ret2
      exact ⟨by rw [← HRP.out]; rfl, HC.out⟩
end Go.Proofs.YtilacamhjibneaaDoor
