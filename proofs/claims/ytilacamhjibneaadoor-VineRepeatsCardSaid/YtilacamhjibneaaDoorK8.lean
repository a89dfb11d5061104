/- Texts on the vines, laid together (V71). Their conditions are their premises. -/
import Derived.Test.YtilacamhjibneaaDoorK7
import Derived.Test.YtilacamhjibneaaDoorK5
import Derived.Deep.CutBlock
set_option linter.unusedVariables false
/- The law VineRepeats, walked. No condition but the arguments' cells. -/
namespace Go.Proofs.YtilacamhjibneaaDoor
open Go.RowKit

def lnN (V : List (List Nat)) (t : List Nat) (y : Nat) : List Nat := (List.range y).map fun z => (gen V z t).length
theorem lnN_len (V : List (List Nat)) (t : List Nat) (y : Nat) : (lnN V t y).length = y := by simp [lnN]
theorem lnN_next (V : List (List Nat)) (t : List Nat) (y : Nat) : lnN V t (y + 1) = lnN V t y ++ [(gen V y t).length] := by simp [lnN, List.range_succ]
theorem lnN_at (V : List (List Nat)) (t : List Nat) {y z : Nat} (h : z < y) : at0 (lnN V t y) z = (gen V z t).length := by
  unfold at0 lnN
  rw [List.getElem?_map, List.getElem?_range h]
  rfl
theorem lonV_nat {V : List (List Nat)} {t : List Nat} {y : Nat} (hy : y ≤ 1000) : lonV V t (y : Int) = if 1152921504606846976 < (gen V y t).length then .tuple #[.int .i64 0, .int .i64 4] else .tuple #[.int .i64 ((gen V y t).length : Nat), .int .i64 0] := by
  unfold lonV
  rw [if_neg (by omega)]
  rfl

set_option maxRecDepth 100000 in
set_option maxHeartbeats 1000000 in
/-- The law where both vines and shoots are taken. -/
theorem rep_ok (V : List (List Nat)) (hV : WF V) (t : List Nat) (ht : ∀ c ∈ t, c < V.length) (hl : t.length ≤ 30) (b off cap : Nat) (Q : List ByteArray) (u : ByteArray) (v2 : Value) (w : World) (hv : VAt w b off V) (hq : SlS w v2 Q) (hn : Q.length ≤ 1000) (hz : ∀ p ∈ Q, p.size ≤ 1000) (hzs : u.size ≤ 1000)
    (hf1 : fewV (V.map str) (str t) = true) (hf2 : fewV Q u = true) (hs1 : SlS w (.slice (some ⟨b, off, none⟩) V.length cap) (V.map str)) (hss : (str t).size ≤ maxLen) (hus : u.size ≤ maxLen) :
    Calls Tryd.prog 9 #[.slice (some ⟨b, off, none⟩) V.length cap, .string (str t), v2, .string u] w fun e w' => e = .returned (.bool true) ∧ Chg (fun _ => False) w w' := by
  have HF := Lib.hid (few_any (V.map str) (str t) _ w hs1 hss)
  have HF2 := Lib.hid (few_any Q u v2 w hq hus)
  rw [hf1] at HF
  rw [hf2] at HF2
  have hn6 := hV.le
  have hn1 := hV.pos
  have HV := Lib.hid hv; have HWF := Lib.hid hV; have HT := Lib.hid ht; have HQ := Lib.hid hq; have HS1' := Lib.hid hs1
  have HREC := Lib.hid (recurrence_ok V hV t ht hl b off cap w hv)
  clear hv hV ht hf1 hf2 hs1 hss hus
  go_enter Tryd.func9, Tryd.ntmps9
  go_wp2_with fail
  refine HF.out.mono ?_
  rintro e w1 ⟨rfl, rfl⟩
  go_wp2_with fail
  refine HF2.out.mono ?_
  rintro e w1 ⟨rfl, rfl⟩
  go_wp2_with fail
  refine HREC.out.mono ?_
  rintro e w2 ⟨⟨g, c, rfl, hi, hlen⟩, hc2⟩
  rw [recV_cofs HWF.out] at hi
  have HI := Lib.hid hi; have HC2 := Lib.hid hc2
  clear hi hc2 hlen
  go_upto_block 0 with (fail)
  go_cut [] from 11 (fun wx => Chg (fun _ => False) w2 wx)
  case first =>
    have h3 : wrap64 (3 * (V.length : Int)) = 3 * (V.length : Int) := by unfold wrap64; omega
    go_wp2_with fail
    go_loopg [12, 11] (3 * V.length) (fun gm yv lv wr => ∃ y : Nat, y ≤ 3 * V.length ∧ gm = 3 * V.length - y ∧ yv = .int .i64 (y : Int) ∧ wr.ownsRow w2.heap.size 3 1 lv (lnN V t y).length (nv (lnN V t y)) ∧ Chg (fun _ => False) w2 wr)
    case atStart => exact ⟨0, by omega, by omega, rfl, World.ownsRow_nil w2 _ 3 1, Chg.refl _ _⟩
    case round =>
      obtain ⟨y, hy, rfl, rfl, how, hc⟩ := hrel
      have HOW := Lib.hid how; have HC := Lib.hid hc
      clear how hc
      generalize u11 = lv at HOW ⊢
      by_cases hy3 : y < 3 * V.length
      · have d0 : (y : Int) < 3 * (V.length : Int) := by omega
        have HL := Lib.hid (lon_ok V HWF.out t HT.out hl (y : Int) (by unfold I64; omega) b off cap wr (HV.out.chg (HC2.out.trans HC.out (fun _ x => x.elim)) (fun x => x)))
        rw [lonV_nat (by omega)] at HL
        have HNX := Lib.hid (lnN_next V t y)
        have HSR := Lib.hid (fun h => lnI_sumrec HWF.out HT.out (y := y) h)
        have HLL := Lib.hid (lnN_len V t y)
        by_cases hbig : 1152921504606846976 < (gen V y t).length
        · rw [if_pos hbig] at HL
          clear hbig
          go_wp2_with fail
          refine HL.out.mono ?_
          rintro e w3 ⟨rfl, hc3⟩
          have HC3 := Lib.hid (HC.out.trans hc3 (fun _ x => x.elim))
          clear hc3
          go_wp2_with fail
          go_meet
          case rel => exact HC3.out
        · rw [if_neg hbig] at HL
          obtain ⟨L, hL⟩ : ∃ L, (gen V y t).length = L := ⟨_, rfl⟩
          have HLE := Lib.hid hL
          rw [hL] at HL hbig HNX
          clear hL
          go_wp2_with fail
          refine HL.out.mono ?_
          rintro e w3 ⟨rfl, hc3⟩
          have HC3 := Lib.hid (HC.out.trans hc3 (fun _ x => x.elim))
          have HO3 := Lib.hid (owns_chg HOW.out hc3)
          clear hc3
          obtain ⟨g3, hg3⟩ : ∃ g3, w3.heap.size = g3 := ⟨_, rfl⟩
          have HOA := Lib.hid (owns_chg HO3.out ((Chg.refl (fun _ => False) w3).alloc (.cells #[.int .i64 (L : Int)] 3)))
          have HXX : Hid (NatsAt (w3.alloc (.cells #[.int .i64 (L : Int)] 3)) g3 0 [L]) := Lib.hid (by
            rw [← hg3]
            intro k hk
            obtain rfl : k = 0 := by simpa using hk
            exact (Blk.new w3 #[.int .i64 (L : Int)] 3).cell_some (i := 0) rfl)
          have HCA := Lib.hid (HC3.out.alloc (.cells #[.int .i64 (L : Int)] 3))
          go_upto_region 15 with (at_builtin; refine wpList_app rfl (.tmp 76) (.tmp 78) rfl w2.heap.size lv (lnN V t y) [L] (by simp [Act.eval]) HOA.out (some ⟨g3, 0, none⟩) 1 (by simp [Act.eval]) (.inr ⟨_, _, rfl, HXX.out⟩) (by have := HLL.out; simp; omega) HCA.out.size ?_; intro lw w4 hown4 hc4)
          clear hg3
          have HC4 := Lib.hid (chg_new (HCA.out.mono (fun _ x => x.elim)) hc4)
          rw [← HNX.out] at hown4
          have HO4 := Lib.hid hown4
          clear hown4 hc4
          by_cases h40 : 1099511627776 < L
          · have d1 : (1099511627776 : Int) < (L : Int) := by omega
            go_wp2_with fail
            go_meet
            case rel => exact HC4.out
          · have d1 : ¬ (1099511627776 : Int) < (L : Int) := by omega
            by_cases hyn : y < V.length
            · have d2 : decide (y < V.length) = true := by simpa using hyn
              go_wp2_with fail
              go_roundg (3 * V.length - (y + 1))
              case measure => omega
              case rel => exact ⟨y + 1, by omega, rfl, by go_num, HO4.out, HC4.out⟩
            · have d2 : decide (y < V.length) = false := by simpa using hyn
              obtain ⟨lg, lc, hlw, _, hlq⟩ := QueB.of_owns HO4.out (by rw [lnN_len]; omega)
              have HLQ := Lib.hid hlq
              subst hlw
              rw [lnN_len]
              clear hlq
              have HSM := Lib.hid (HSR.out (by omega))
              obtain ⟨T, hT⟩ : ∃ T : Nat → Int, (fun m => coef (ent (cntM V)) V.length m * lnI V t (y - 1 - m)) = T := ⟨_, rfl⟩
              have HTT := Lib.hid hT
              rw [hT] at HSM
              clear hT
              go_wp2_with fail
              go_loopg [16, 15] V.length (fun gm iv sv wr => ∃ i : Nat, i ≤ V.length ∧ gm = V.length - i ∧ iv = .int .i64 (i : Int) ∧ sv = .int .i64 (wrap64 (sumI T (List.range i))) ∧ Chg (fun _ => False) w4 wr)
              case atStart => exact ⟨0, by omega, by omega, rfl, by rw [show sumI T (List.range 0) = 0 from rfl, show wrap64 0 = 0 from wrap_id (by decide)], Chg.refl _ _⟩
              case round =>
                obtain ⟨i, hi, rfl, rfl, rfl, hc⟩ := hrel
                have HC5 := Lib.hid hc
                clear hc
                by_cases hin : i < V.length
                · have d3 : decide (i < V.length) = true := by simpa using hin
                  obtain ⟨z, hz⟩ : ∃ z, y - 1 - i = z := ⟨_, rfl⟩
                  have hcl : (cofs V).length = V.length := by simp [cofs]
                  have k1 := (HI.out.chg ((HC4.out.trans HC5.out (fun _ x => x.elim))) (fun x => x)) i (by rw [hcl]; exact hin)
                  rw [Nat.zero_add, show (cofs V)[i]'(by rw [hcl]; exact hin) = coef (ent (cntM V)) V.length i by unfold cofs; rw [List.getElem_map, List.getElem_range]] at k1
                  have k2 := (HLQ.out.chg HC5.out (fun x => x)).at_ z _ (nv_at (N := lnN V t (y + 1)) (by rw [lnN_len]; omega))
                  rw [Nat.zero_add, lnN_at V t (show z < y + 1 by omega)] at k2
                  have HTI := Lib.hid (show T i = coef (ent (cntM V)) V.length i * ((gen V z t).length : Nat) by rw [← HTT.out, ← hz]; rfl)
                  have HSN := Lib.hid (sumI_range T i)
                  obtain ⟨cc, hcc⟩ : ∃ cc, coef (ent (cntM V)) V.length i = cc := ⟨_, rfl⟩
                  obtain ⟨M, hM⟩ : ∃ M, (gen V z t).length = M := ⟨_, rfl⟩
                  obtain ⟨S, hS⟩ : ∃ S, sumI T (List.range i) = S := ⟨_, rfl⟩
                  rw [hcc] at k1 HTI
                  rw [hM] at k2 HTI
                  rw [hS] at HSN ⊢
                  rw [HTI.out] at HSN
                  have b1 : IntKind.i64.wrap ((y : Int) - 1) = ((y - 1 : Nat) : Int) := by rw [i64_small (by omega)]; omega
                  have b2 : IntKind.i64.wrap (((y - 1 : Nat) : Int) - (i : Int)) = (z : Int) := by rw [i64_small (by omega)]; omega
                  have b3 : (z : Int) < (y : Int) + 1 := by omega
                  have b4 : z < y + 1 := by omega
                  clear hcc hM hS hz
                  go_wp2_with fail
                  go_quiet (fail)
                  clear b1 b2
                  go_wp2_with fail
                  go_roundg (V.length - (i + 1))
                  case measure => omega
                  case rel => exact ⟨i + 1, by omega, rfl, by go_num, by rw [HSN.out, wrap_add], HC5.out.drewN nq⟩
                · obtain rfl : i = V.length := by omega
                  rw [HSM.out]
                  have hwl : wrap64 (lnI V t y) = (L : Int) := by
                    unfold lnI
                    rw [HLE.out]
                    exact wrap_id (by omega)
                  rw [hwl]
                  clear hwl
                  go_wp2_with fail
                  go_roundg (3 * V.length - (y + 1))
                  case measure => omega
                  case rel => exact ⟨y + 1, by omega, rfl, by go_num, by have h := owns_chg HO4.out HC5.out; rw [lnN_len] at h ⊢; exact h, HC4.out.trans HC5.out (fun _ x => x.elim)⟩
      · obtain rfl : y = 3 * V.length := by omega
        have d0 : ¬ ((3 * V.length : Nat) : Int) < 3 * (V.length : Int) := by omega
        go_wp2_with fail
        go_meet
        case rel => exact HC.out
  case rest =>
    have HCX := Lib.hid (HC2.out.trans hcut (fun _ x => x.elim))
    clear hcut
    by_cases he : errS Q u = 0
    · obtain ⟨W, r, rfl, rfl, hW, hl2, hr⟩ := shot_of he
      obtain ⟨bo, b2, off2, cap2, rfl, hst2, ha2⟩ := HQ.out.form
      have hp2 := hW.pos
      have hm6 := hW.le
      obtain rfl := ha2.resolve_left (fun e => by have h0 := congrArg List.length e; rw [List.length_map, List.length_nil] at h0; omega)
      have HV2 := Lib.hid (vat_of hst2)
      rw [List.length_map]
      have HWW := Lib.hid hW; have HR := Lib.hid hr
      have HSA := Lib.hid (same_ok V HWF.out t HT.out hl b off cap W hW r hr hl2 b2 off2 cap2 wc (HV.out.chg HCX.out (fun x => x)) (HV2.out.chg HCX.out (fun x => x)))
      have HAG := Lib.hid (ln_agree HWF.out hW HT.out hr)
      have HS1 := Lib.hid (fun y h1 h2 h3 => sameF_first (ln V t) (ln W r) (V.length + W.length) 0 y h1 h2 h3)
      have HS2 := Lib.hid (fun h => sameF_none (ln V t) (ln W r) (V.length + W.length) 0 h)
      have hse : ∃ a e : Int, sameF (ln V t) (ln W r) (V.length + W.length) 0 = .tuple #[.int .i64 a, .int .i64 e] := sameF_two _ _ _ _
      obtain ⟨a, e0, hS⟩ := hse
      have HSE := Lib.hid hS
      rw [hS] at HSA
      clear hS hW hr hst2 ha2 he
      go_wp2_with fail
      refine HSA.out.mono ?_
      rintro x w5 ⟨rfl, hc5⟩
      have HC5 := Lib.hid (HCX.out.trans hc5 (fun _ x => x.elim))
      have HSH := Lib.hid (rshoot_ok W HWW.out r HR.out hl2 b2 off2 cap2 w5 (HV2.out.chg HC5.out (fun x => x)))
      clear hc5
      go_wp2_with fail
      refine HSH.out.mono ?_
      rintro x w6 ⟨rfl, rfl⟩
      go_wp2_with fail
      go_loopg [18] 30 (fun gm yv wr => ∃ y : Nat, y ≤ 30 ∧ gm = 30 - y ∧ yv = .int .i64 (y : Int) ∧ (∀ z, z < y → ln V t z = ln W r z) ∧ Chg (fun _ => False) w1 wr)
      case atStart => exact ⟨0, by omega, by omega, rfl, fun z hz => by omega, HC5.out⟩
      case round =>
        obtain ⟨y, hy, rfl, rfl, heqs, hc⟩ := hrel
        have HC6 := Lib.hid hc; have HEQS := Lib.hid heqs
        clear hc heqs
        by_cases hy30 : y < 30
        · have d0 : (y : Int) < 30 := by omega
          have HL1 := Lib.hid (lon_ok V HWF.out t HT.out hl (y : Int) (by unfold I64; omega) b off cap wr (HV.out.chg HC6.out (fun x => x)))
          have HL2 := Lib.hid (fun (wz : World) (hz : Chg (fun _ => False) w1 wz) => lon_ok W HWW.out r HR.out hl2 (y : Int) (by unfold I64; omega) b2 off2 cap2 wz (HV2.out.chg hz (fun x => x)))
          simp only [lonV_nat (show y ≤ 1000 by omega)] at HL1 HL2
          have HLD := Lib.hid (show ln V t y = (gen V y t).length ∧ ln W r y = (gen W y r).length from ⟨rfl, rfl⟩)
          have HAY := Lib.hid (fun h => HAG.out h y)
          obtain ⟨L, hL⟩ : ∃ L, (gen V y t).length = L := ⟨_, rfl⟩
          obtain ⟨M, hM⟩ : ∃ M, (gen W y r).length = M := ⟨_, rfl⟩
          rw [hL, hM] at HLD HAY
          rw [hL] at HL1
          simp only [hM] at HL2
          clear hL hM
          by_cases hLM : L = M
          · subst hLM
            by_cases hbig : 1152921504606846976 < L
            · rw [if_pos hbig] at HL1
              simp only [if_pos hbig] at HL2
              clear hbig
              by_cases he0 : e0 = 0
              · subst he0
                go_wp2_with fail
                refine HL1.out.mono ?_
                rintro x w7 ⟨rfl, hc7⟩
                have HC7 := Lib.hid (HC6.out.trans hc7 (fun _ x => x.elim))
                clear hc7
                go_wp2_with fail
                refine (HL2.out w7 HC7.out).mono ?_
                rintro x w8 ⟨rfl, hc8⟩
                have HC8 := Lib.hid (HC7.out.trans hc8 (fun _ x => x.elim))
                clear hc8
                go_wp2_with fail
                refine (alive_any _).mono ?_
                rintro x w9 ⟨rfl, hc9⟩
                have HC9 := Lib.hid (HC8.out.trans hc9 (fun _ x => x.elim))
                clear hc9
                go_wp2_with fail
                go_ret
                exact ⟨rfl, HC9.out⟩
              · have hb0 : (e0 == 0) = false := by simpa using he0
                go_wp2_with fail
                refine HL1.out.mono ?_
                rintro x w7 ⟨rfl, hc7⟩
                have HC7 := Lib.hid (HC6.out.trans hc7 (fun _ x => x.elim))
                clear hc7
                go_wp2_with fail
                refine (HL2.out w7 HC7.out).mono ?_
                rintro x w8 ⟨rfl, hc8⟩
                have HC8 := Lib.hid (HC7.out.trans hc8 (fun _ x => x.elim))
                clear hc8
                go_wp2_with fail
                refine (alive_any _).mono ?_
                rintro x w9 ⟨rfl, hc9⟩
                have HC9 := Lib.hid (HC8.out.trans hc9 (fun _ x => x.elim))
                clear hc9
                go_wp2_with fail
                go_ret
                exact ⟨rfl, HC9.out⟩
            · rw [if_neg hbig] at HL1
              simp only [if_neg hbig] at HL2
              go_wp2_with fail
              refine HL1.out.mono ?_
              rintro x w7 ⟨rfl, hc7⟩
              have HC7 := Lib.hid (HC6.out.trans hc7 (fun _ x => x.elim))
              clear hc7
              go_wp2_with fail
              refine (HL2.out w7 HC7.out).mono ?_
              rintro x w8 ⟨rfl, hc8⟩
              have HC8 := Lib.hid (HC7.out.trans hc8 (fun _ x => x.elim))
              clear hc8
              go_wp2_with fail
              go_roundg (30 - (y + 1))
              case measure => omega
              case rel => exact ⟨y + 1, by omega, rfl, by go_num, fun z hz => by
                by_cases h : z = y
                · subst h; rw [HLD.out.1, HLD.out.2]
                · exact HEQS.out z (by omega), HC8.out⟩
          · have hym : y < V.length + W.length := by
              by_cases h : y < V.length + W.length
              · exact h
              · exact absurd (HAY.out (fun z hz => HEQS.out z (by omega))) hLM
            have hfs := (HS1.out y (fun z _ hz => HEQS.out z (by omega)) (by rw [Nat.zero_add, HLD.out.1, HLD.out.2]; exact hLM) hym).symm.trans HSE.out
            obtain ⟨rfl, rfl⟩ : a = (y : Int) ∧ e0 = 0 := by
              simp at hfs
              omega
            clear hfs
            have hLM' : ¬ (L : Int) = (M : Int) := by omega
            have hym2 : (y : Int) < (V.length : Int) + (W.length : Int) := by omega
            have hw2 : wrap64 ((V.length : Int) + (W.length : Int)) = (V.length : Int) + (W.length : Int) := wrap_id (by omega)
            by_cases h1 : 1152921504606846976 < L
            · rw [if_pos h1] at HL1
              by_cases h2 : 1152921504606846976 < M
              · simp only [if_pos h2] at HL2
                clear h1 h2
                go_wp2_with fail
                refine HL1.out.mono ?_
                rintro x w7 ⟨rfl, hc7⟩
                have HC7 := Lib.hid (HC6.out.trans hc7 (fun _ x => x.elim))
                clear hc7
                go_wp2_with fail
                refine (HL2.out w7 HC7.out).mono ?_
                rintro x w8 ⟨rfl, hc8⟩
                have HC8 := Lib.hid (HC7.out.trans hc8 (fun _ x => x.elim))
                clear hc8
                go_wp2_with fail
                refine (alive_any _).mono ?_
                rintro x w9 ⟨rfl, hc9⟩
                have HC9 := Lib.hid (HC8.out.trans hc9 (fun _ x => x.elim))
                clear hc9
                go_wp2_with fail
                go_ret
                exact ⟨rfl, HC9.out⟩
              · simp only [if_neg h2] at HL2
                clear h1 h2
                go_wp2_with fail
                refine HL1.out.mono ?_
                rintro x w7 ⟨rfl, hc7⟩
                have HC7 := Lib.hid (HC6.out.trans hc7 (fun _ x => x.elim))
                clear hc7
                go_wp2_with fail
                refine (HL2.out w7 HC7.out).mono ?_
                rintro x w8 ⟨rfl, hc8⟩
                have HC8 := Lib.hid (HC7.out.trans hc8 (fun _ x => x.elim))
                clear hc8
                go_wp2_with fail
                refine (alive_any _).mono ?_
                rintro x w9 ⟨rfl, hc9⟩
                have HC9 := Lib.hid (HC8.out.trans hc9 (fun _ x => x.elim))
                clear hc9
                go_wp2_with fail
                go_ret
                exact ⟨rfl, HC9.out⟩
            · rw [if_neg h1] at HL1
              by_cases h2 : 1152921504606846976 < M
              · simp only [if_pos h2] at HL2
                clear h1 h2
                go_wp2_with fail
                refine HL1.out.mono ?_
                rintro x w7 ⟨rfl, hc7⟩
                have HC7 := Lib.hid (HC6.out.trans hc7 (fun _ x => x.elim))
                clear hc7
                go_wp2_with fail
                refine (HL2.out w7 HC7.out).mono ?_
                rintro x w8 ⟨rfl, hc8⟩
                have HC8 := Lib.hid (HC7.out.trans hc8 (fun _ x => x.elim))
                clear hc8
                go_wp2_with fail
                refine (alive_any _).mono ?_
                rintro x w9 ⟨rfl, hc9⟩
                have HC9 := Lib.hid (HC8.out.trans hc9 (fun _ x => x.elim))
                clear hc9
                go_wp2_with fail
                go_ret
                exact ⟨rfl, HC9.out⟩
              · simp only [if_neg h2] at HL2
                clear h1 h2
                go_wp2_with fail
                refine HL1.out.mono ?_
                rintro x w7 ⟨rfl, hc7⟩
                have HC7 := Lib.hid (HC6.out.trans hc7 (fun _ x => x.elim))
                clear hc7
                go_wp2_with fail
                refine (HL2.out w7 HC7.out).mono ?_
                rintro x w8 ⟨rfl, hc8⟩
                have HC8 := Lib.hid (HC7.out.trans hc8 (fun _ x => x.elim))
                clear hc8
                go_wp2_with fail
                refine (alive_any _).mono ?_
                rintro x w9 ⟨rfl, hc9⟩
                have HC9 := Lib.hid (HC8.out.trans hc9 (fun _ x => x.elim))
                clear hc9
                go_wp2_with fail
                go_ret
                exact ⟨rfl, HC9.out⟩
        · obtain rfl : y = 30 := by omega
          have hfs := (HS2.out (fun z _ hz => HEQS.out z (by omega))).symm.trans HSE.out
          obtain ⟨rfl, rfl⟩ : a = 0 ∧ e0 = 10 := by
            simp at hfs
            omega
          clear hfs
          go_wp2_with fail
          refine (alive_any _).mono ?_
          rintro x w9 ⟨rfl, hc9⟩
          have HC9 := Lib.hid (HC6.out.trans hc9 (fun _ x => x.elim))
          clear hc9
          go_wp2_with fail
          go_ret
          exact ⟨rfl, HC9.out⟩
    · obtain ⟨bo, b2, off2, cap2, rfl, hm⟩ := sm_of (s := u) HQ.out hn hz hzs
      have h1 : Sm wc (V.map str) (str t) (some ⟨b, off, none⟩) b off := ⟨strs_of (HV.out.chg HCX.out (fun x => x)), .inr rfl, by rw [List.length_map]; omega, fun p hp => by
        obtain ⟨q, hq, rfl⟩ := List.mem_map.1 hp
        obtain ⟨k, hk, rfl⟩ := List.getElem_of_mem hq
        have := (HWF.out.part_le k).1
        rw [part_lt hk] at this
        rw [str_size]
        omega, by rw [str_size]; omega⟩
      have h2 : Sm wc Q u bo b2 off2 := ⟨hm.at_.chg HCX.out (fun x => x), hm.ao, hm.n, hm.z, hm.zs⟩
      have hbe : bothE (V.map str) (str t) Q u = errS Q u := by
        unfold bothE
        rw [if_pos (errS_ok HWF.out HT.out hl)]
      have HSA := Lib.hid (same_err (V.map str) (str t) (some ⟨b, off, none⟩) cap b off Q u bo cap2 b2 off2 wc h1 h2 (by rw [hbe]; exact he))
      rw [hbe, List.length_map] at HSA
      have HSH := Lib.hid (rshoot_any Q u bo cap2 b2 off2 wc h2.at_ h2.ao hn hz hzs)
      obtain ⟨E, hE⟩ : ∃ E, errS Q u = E := ⟨_, rfl⟩
      rw [hE] at HSA HSH he
      have dn : ((E : Int) != 0) = true := by simpa using he
      clear hE he hbe h1 h2 hm
      go_wp2_with fail
      refine HSA.out.mono ?_
      rintro x w5 ⟨rfl, rfl⟩
      go_wp2_with fail
      refine HSH.out.mono ?_
      rintro x w6 ⟨rfl, rfl⟩
      go_wp2_with fail
      refine HSH.out.mono ?_
      rintro x w7 ⟨rfl, rfl⟩
      go_wp2_with fail
      refine (alive_any _).mono ?_
      rintro x w9 ⟨rfl, hc9⟩
      have HC9 := Lib.hid (HCX.out.trans hc9 (fun _ x => x.elim))
      clear hc9
      go_wp2_with fail
      go_ret
      exact ⟨rfl, HC9.out⟩

set_option maxRecDepth 100000 in
set_option maxHeartbeats 1000000 in
theorem vineRepeats_law (P : List ByteArray) (s : ByteArray) (Q : List ByteArray) (u : ByteArray) (v v2 : Value) (w : World) (hv : SlS w v P) (hs : s.size ≤ maxLen) (hv2 : SlS w v2 Q) (hu : u.size ≤ maxLen) :
    Calls Tryd.prog 9 #[v, .string s, v2, .string u] w fun e w' => e = .returned (.bool true) ∧ Chg (fun _ => False) w w' := by
  have HF := Lib.hid (few_any P s v w hv hs)
  have HF2 := Lib.hid (few_any Q u v2 w hv2 hu)
  by_cases hfew : fewV P s = true
  · by_cases hfew2 : fewV Q u = true
    · obtain ⟨hn, hz, hzs⟩ := few_small hfew
      obtain ⟨hn2, hz2, hzs2⟩ := few_small hfew2
      by_cases he : errS P s = 0
      · obtain ⟨V, t, rfl, rfl, hV, hl, ht⟩ := shot_of he
        obtain ⟨ao, b, off, cap, rfl, hst, ha⟩ := hv.form
        have hpos := hV.pos
        obtain rfl := ha.resolve_left (fun e => by have h0 := congrArg List.length e; rw [List.length_map, List.length_nil] at h0; omega)
        rw [List.length_map] at hv ⊢
        exact rep_ok V hV t ht hl b off cap Q u v2 w (vat_of hst) hv2 hn2 hz2 hzs2 hfew hfew2 hv hs hu
      · obtain ⟨ao, b, off, cap, rfl, hm⟩ := sm_of (s := s) hv hn hz hzs
        rw [hfew] at HF
        rw [hfew2] at HF2
        have HRC := Lib.hid (rec_err P s ao cap b off w hm he)
        have HSH := Lib.hid (rshoot_any P s ao cap b off w hm.at_ hm.ao hn hz hzs)
        obtain ⟨E, hE⟩ : ∃ E, errS P s = E := ⟨_, rfl⟩
        rw [hE] at HRC HSH he
        have dn : ((E : Int) != 0) = true := by simpa using he
        clear hE he hm hfew hfew2 hv hv2 hz hz2
        go_enter Tryd.func9, Tryd.ntmps9
        go_wp2_with fail
        refine HF.out.mono ?_
        rintro e w1 ⟨rfl, rfl⟩
        go_wp2_with fail
        refine HF2.out.mono ?_
        rintro e w1 ⟨rfl, rfl⟩
        go_wp2_with fail
        refine HRC.out.mono ?_
        rintro e w1 ⟨rfl, rfl⟩
        go_wp2_with fail
        refine HSH.out.mono ?_
        rintro e w1 ⟨rfl, rfl⟩
        go_wp2_with fail
        refine (alive_any w1).mono ?_
        rintro e w2 ⟨rfl, hc2⟩
        have HC2 := Lib.hid hc2
        clear hc2
        go_wp2_with fail
        go_ret
        exact ⟨rfl, HC2.out⟩
    · have hff : fewV Q u = false := by simpa using hfew2
      rw [hfew] at HF
      rw [hff] at HF2
      clear hfew hff hfew2 hv hv2
      go_enter Tryd.func9, Tryd.ntmps9
      go_wp2_with fail
      refine HF.out.mono ?_
      rintro e w1 ⟨rfl, rfl⟩
      go_wp2_with fail
      refine HF2.out.mono ?_
      rintro e w1 ⟨rfl, rfl⟩
      go_wp2_with fail
      refine (alive_any w1).mono ?_
      rintro e w2 ⟨rfl, hc2⟩
      have HC2 := Lib.hid hc2
      clear hc2
      go_wp2_with fail
      go_ret
      exact ⟨rfl, HC2.out⟩
  · have hff : fewV P s = false := by simpa using hfew
    rw [hff] at HF
    clear hfew hff hv hv2
    go_enter Tryd.func9, Tryd.ntmps9
    go_wp2_with fail
    refine HF.out.mono ?_
    rintro e w1 ⟨rfl, rfl⟩
    go_wp2_with fail
    refine (alive_any w1).mono ?_
    rintro e w2 ⟨rfl, hc2⟩
    have HC2 := Lib.hid hc2
    clear hc2
    go_wp2_with fail
    go_ret
    exact ⟨rfl, HC2.out⟩
end Go.Proofs.YtilacamhjibneaaDoor
