/- Gates of the reference, walked. Its conditions are its premises. -/
import Derived.Test.YtmmpdfcnenljhaaF27
set_option linter.unusedVariables false
namespace Go.Proofs.Ytmmpdfcnenljhaa
open Go.RowKit

/-- Is fence j of the directed ones in a ring? -/
def InRing (E : List Fe) (j : Nat) : Prop := ∃ o, E[j]? = some o ∧ Rch E o.b o.a
theorem cntS_zero (p : Nat → Prop) : ∀ n, cntS p n = 0 ↔ ∀ j, j < n → ¬ p j
  | 0 => ⟨fun _ j h => by omega, fun _ => rfl⟩
  | n + 1 => by
    have ih := cntS_zero p n
    rw [cntS]
    constructor
    · intro h j hj hp
      rcases Nat.lt_succ_iff_lt_or_eq.1 hj with h1 | rfl
      · exact ih.1 (by omega) j h1 hp
      · rw [ind_yes hp] at h; omega
    · intro h
      rw [ih.2 fun j hj => h j (by omega), ind_no (h n (by omega))]
theorem cntS_full (p : Nat → Prop) : ∀ n, cntS p n = n ↔ ∀ j, j < n → p j
  | 0 => ⟨fun _ j h => by omega, fun _ => rfl⟩
  | n + 1 => by
    have ih := cntS_full p n
    have hle := cntS_le p n
    rw [cntS]
    constructor
    · intro h j hj
      have h1 : ind (p n) = 1 := by unfold ind at h ⊢; split at h <;> simp_all <;> omega
      rcases Nat.lt_succ_iff_lt_or_eq.1 hj with h2 | rfl
      · exact ih.1 (by omega) j h2
      · apply Classical.byContradiction
        intro hn
        rw [ind_no hn] at h1
        cases h1
    · intro h
      rw [ih.2 fun j hj => h j (by omega), ind_yes (h n (by omega))]
theorem rings_acy (E : List Fe) : cntS (InRing E) E.length = 0 ↔ Acy E := by
  rw [cntS_zero]
  constructor
  · intro h e he hk
    obtain ⟨j, hj, rfl⟩ := List.getElem_of_mem he
    exact h j hj ⟨_, List.getElem?_eq_getElem hj, hk⟩
  · rintro h j hj ⟨o, ho, hk⟩
    exact h o (List.mem_of_getElem? ho) hk
theorem rings_cyc (E : List Fe) : cntS (InRing E) E.length = E.length ↔ Cyc E := by
  rw [cntS_full]
  constructor
  · intro h e he
    obtain ⟨j, hj, rfl⟩ := List.getElem_of_mem he
    obtain ⟨o, ho, hk⟩ := h j hj
    rw [List.getElem?_eq_getElem hj] at ho
    cases ho
    exact hk
  · intro h j hj
    exact ⟨_, List.getElem?_eq_getElem hj, h _ (List.getElem_mem hj)⟩
theorem inRing_iff {l : List Fe} {S j : Nat} (hj : j < l.length) {o : Fe} (ho : (if S.testBit j then l[j].flip else l[j]) = o) : InRing (orient l S) j ↔ Rch (orient l S) o.b o.a := by
  have h := orient_get l S j hj
  rw [ho] at h
  constructor
  · rintro ⟨o', ho', hk⟩
    rw [h] at ho'
    cases ho'
    exact hk
  · intro hk
    exact ⟨o, h, hk⟩

def gatesE (n : Int) (l : List Fe) : Int × Int × Int → Prop := fun r =>
  (gardenE n l ≠ 0 ∧ r = (0, 0, gardenE n l)) ∨ (gardenE n l = 0 ∧ r = (((cntS (fun S => Acy (orient l S)) (2 ^ l.length) : Nat) : Int), ((cntS (fun S => Cyc (orient l S)) (2 ^ l.length) : Nat) : Int), 0))
def GatesPost (n : Int) (l : List Fe) (w : World) (e : Ending) (w' : World) : Prop := ∃ r, gatesE n l r ∧ e = .returned (.tuple #[.int .i64 r.1, .int .i64 r.2.1, .int .i64 r.2.2]) ∧ Chg (fun _ => False) w w'

set_option maxRecDepth 100000 in
set_option maxHeartbeats 4000000 in
theorem rGates_any (n : Int) (l : List Fe) (a : Option Addr) (cap b off : Nat) (w : World) (hs : FencesAt w b off l) (ha : l = [] ∨ a = some ⟨b, off, none⟩) :
    Calls Try.prog 15 #[.int .i64 n, .slice a l.length cap] w (GatesPost n l w) := by
  have HS := Lib.hid hs; have HA := Lib.hid ha
  clear hs ha
  go_enter Try.func15, Try.ntmps15
  go_wp2_with fail
  refine (Garden_any n l a cap b off w HS.out HA.out).mono ?_
  rintro e w1 ⟨rfl, hc1⟩
  by_cases h0 : gardenE n l ≠ 0
  · have hq : (gardenE n l != 0) = true := by simpa using h0
    have H0 := Lib.hid h0; have HC := Lib.hid hc1
    clear h0 hc1
    go_wp2_with fail
    go_ret3
    exact ⟨(0, 0, gardenE n l), .inl ⟨H0.out, rfl⟩, rfl, HC.out⟩
  · have h0' : gardenE n l = 0 := by simpa using h0
    have hv := valid_of h0'
    obtain ⟨N, rfl⟩ : ∃ N : Nat, n = N := ⟨n.toNat, by have := hv.n1; omega⟩
    have hl14 := hv.len
    obtain ⟨hw1, _⟩ := all_wraps hl14
    have hM : 2 ^ l.length ≤ 2 ^ 14 := Nat.pow_le_pow_right (by omega) hl14
    obtain ⟨M, hMM⟩ : ∃ M, 2 ^ l.length = M := ⟨_, rfl⟩
    have hMI : (2 : Int) ^ l.length = (M : Int) := by rw [← hMM]; simp
    have hw1' : wrap64 ((2 : Int) ^ l.length) = (M : Int) := by rw [hw1, hMI]
    have HW := Lib.hid hw1'
    rw [hMM] at hM
    have hM' : M ≤ 16384 := hM
    have HMM := Lib.hid hMM
    have H0 := Lib.hid h0'; have HC := Lib.hid hc1; have HV := Lib.hid hv
    rw [h0']
    clear h0 h0' hc1 hv hw1 hMM hMI hM hw1'
    go_wp2_with fail
    go_loopg [10, 8, 9] M (fun gm sv fv rv wr => ∃ s : Nat, s ≤ M ∧ gm = M - s ∧ sv = .int .i64 s ∧ fv = .int .i64 ((cntS (fun S => Acy (orient l S)) s : Nat) : Int) ∧ rv = .int .i64 ((cntS (fun S => Cyc (orient l S)) s : Nat) : Int) ∧ Chg (fun _ => False) w wr)
    case atStart => exact ⟨0, by omega, by omega, rfl, rfl, rfl, HC.out⟩
    case round =>
      clear HC
      obtain ⟨s, hs, rfl, rfl, rfl, rfl, hcg⟩ := hrel
      have HCG := Lib.hid hcg
      clear hcg
      have hfa := cntS_le (fun S => Acy (orient l S)) s
      have hfc := cntS_le (fun S => Cyc (orient l S)) s
      have HFN := Lib.hid (show cntS (fun S => Acy (orient l S)) (s + 1) = cntS (fun S => Acy (orient l S)) s + ind (Acy (orient l s)) from rfl)
      have HRN := Lib.hid (show cntS (fun S => Cyc (orient l S)) (s + 1) = cntS (fun S => Cyc (orient l S)) s + ind (Cyc (orient l s)) from rfl)
      obtain ⟨fr, hfr⟩ : ∃ fr, cntS (fun S => Acy (orient l S)) s = fr := ⟨_, rfl⟩
      obtain ⟨ro, hro⟩ : ∃ ro, cntS (fun S => Cyc (orient l S)) s = ro := ⟨_, rfl⟩
      have HFR := Lib.hid hfr; have HRO := Lib.hid hro
      rw [hfr] at HFN hfa ⊢
      rw [hro] at HRN hfc ⊢
      clear hfr hro
      by_cases hlt : s < M
      · have hd : decide ((s : Int) < wrap64 ((2 : Int) ^ l.length)) = true := by rw [HW.out, decide_eq_true_eq]; omega
        have hd2 : decide (s < M) = true := decide_eq_true hlt
        go_wp2_with fail
        go_loopg [12, 11] l.length (fun gm iv rv wr => ∃ i : Nat, i ≤ l.length ∧ gm = l.length - i ∧ iv = .int .i64 i ∧ rv = .int .i64 ((cntS (InRing (orient l s)) i : Nat) : Int) ∧ Chg (fun _ => False) w wr)
        case atStart => exact ⟨0, by omega, by omega, rfl, rfl, HCG.out⟩
        case round =>
          clear HCG
          obtain ⟨i, hi, rfl, rfl, rfl, hcg⟩ := hrel
          have HCG := Lib.hid hcg
          clear hcg
          have hrc := cntS_le (InRing (orient l s)) i
          have HKN := Lib.hid (show cntS (InRing (orient l s)) (i + 1) = cntS (InRing (orient l s)) i + ind (InRing (orient l s) i) from rfl)
          obtain ⟨rc, hrcc⟩ : ∃ rc, cntS (InRing (orient l s)) i = rc := ⟨_, rfl⟩
          have HRC := Lib.hid hrcc
          rw [hrcc] at HKN hrc ⊢
          clear hrcc
          by_cases hli : i < l.length
          · have hne : a = some ⟨b, off, none⟩ := HA.out.resolve_left (by intro h; simp [h] at hli)
            subst hne
            obtain ⟨c0, c1⟩ := HS.out.chg HCG.out (fun x => x) i hli
            have hok := HV.out.ok _ (List.getElem_mem hli)
            have HIR : Hid (∀ o, (if s.testBit i then l[i].flip else l[i]) = o → (InRing (orient l s) i ↔ Rch (orient l s) o.b o.a)) := Lib.hid fun o ho => inRing_iff hli ho
            obtain ⟨f, hf⟩ : ∃ f, l[i] = f := ⟨_, rfl⟩
            rw [hf] at c0 c1 hok
            simp only [hf] at HIR
            clear hf
            obtain ⟨o1, o2, o3, o4⟩ := hok
            obtain ⟨bt, hbt⟩ : ∃ bt, s.testBit i = bt := ⟨_, rfl⟩
            have dbit := bit_one hbt
            rw [hbt] at HIR
            clear hbt
            go_wp2_with fail
            go_quiet (fail)
            clear c0 c1
            have HCG2 := Lib.hid (HCG.out.drewN nq)
            generalize wr.drewN nq = W2 at HCG2 ⊢
            clear HCG
            cases bt with
            | false =>
              have HIR2 := Lib.hid (HIR.out f rfl)
              clear HIR
              have ux0 : 0 ≤ f.b := by first | exact o1 | exact o3
              have ux1 : f.b < (N : Int) := by first | exact o2 | exact o4
              have vx0 : 0 ≤ f.a := by first | exact o1 | exact o3
              have vx1 : f.a < (N : Int) := by first | exact o2 | exact o4
              have HRE := Lib.hid (reaches_any N l (some ⟨b, off, none⟩) cap b off s f.b f.a W2 HV.out (HS.out.chg HCG2.out (fun x => x)) (.inr rfl) (by omega) ux0 ux1 vx0 vx1)
              go_wp2_with fail
              refine HRE.out.mono ?_
              rintro e w5 ⟨bb, rfl, hbb, hc5⟩
              have HBB := Lib.hid (HIR2.out.trans (show Rch (orient l s) f.b f.a ↔ bb = true from hbb.symm)); have HC5 := Lib.hid (HCG2.out.trans hc5 (fun _ x => x.elim))
              clear hbb hc5 HIR2 HRE HCG2
              cases bb with
              | false =>
                have HK := Lib.hid (show cntS (InRing (orient l s)) (i + 1) = rc by rw [HKN.out, ind_no (fun h => by have := HBB.out.1 h; cases this)]; rfl)
                go_wp2_with fail
                go_roundg (l.length - (i + 1))
                case measure => omega
                case rel => exact ⟨i + 1, by omega, rfl, by go_num, by rw [HK.out], HC5.out⟩
              | true =>
                have HK := Lib.hid (show cntS (InRing (orient l s)) (i + 1) = rc + 1 by rw [HKN.out, ind_yes (HBB.out.2 rfl)])
                go_wp2_with fail
                go_roundg (l.length - (i + 1))
                case measure => omega
                case rel => exact ⟨i + 1, by omega, rfl, by go_num, by rw [HK.out]; go_num, HC5.out⟩
            | true =>
              have HIR2 := Lib.hid (HIR.out f.flip rfl)
              clear HIR
              have ux0 : 0 ≤ f.a := by first | exact o1 | exact o3
              have ux1 : f.a < (N : Int) := by first | exact o2 | exact o4
              have vx0 : 0 ≤ f.b := by first | exact o1 | exact o3
              have vx1 : f.b < (N : Int) := by first | exact o2 | exact o4
              have HRE := Lib.hid (reaches_any N l (some ⟨b, off, none⟩) cap b off s f.a f.b W2 HV.out (HS.out.chg HCG2.out (fun x => x)) (.inr rfl) (by omega) ux0 ux1 vx0 vx1)
              go_wp2_with fail
              refine HRE.out.mono ?_
              rintro e w5 ⟨bb, rfl, hbb, hc5⟩
              have HBB := Lib.hid (HIR2.out.trans (show Rch (orient l s) f.a f.b ↔ bb = true from hbb.symm)); have HC5 := Lib.hid (HCG2.out.trans hc5 (fun _ x => x.elim))
              clear hbb hc5 HIR2 HRE HCG2
              cases bb with
              | false =>
                have HK := Lib.hid (show cntS (InRing (orient l s)) (i + 1) = rc by rw [HKN.out, ind_no (fun h => by have := HBB.out.1 h; cases this)]; rfl)
                go_wp2_with fail
                go_roundg (l.length - (i + 1))
                case measure => omega
                case rel => exact ⟨i + 1, by omega, rfl, by go_num, by rw [HK.out], HC5.out⟩
              | true =>
                have HK := Lib.hid (show cntS (InRing (orient l s)) (i + 1) = rc + 1 by rw [HKN.out, ind_yes (HBB.out.2 rfl)])
                go_wp2_with fail
                go_roundg (l.length - (i + 1))
                case measure => omega
                case rel => exact ⟨i + 1, by omega, rfl, by go_num, by rw [HK.out]; go_num, HC5.out⟩
          · have hil : i = l.length := by omega
            subst hil
            have hol : (orient l s).length = l.length := orient_len l s
            have HAC := Lib.hid (rings_acy (orient l s)); have HCY := Lib.hid (rings_cyc (orient l s))
            rw [hol, HRC.out] at HAC HCY
            clear hol
            have hfin : Hid (∀ fr' ro' : Nat, fr' = fr + ind (Acy (orient l s)) → ro' = ro + ind (Cyc (orient l s)) → cntS (fun S => Acy (orient l S)) (s + 1) = fr' ∧ cntS (fun S => Cyc (orient l S)) (s + 1) = ro') := Lib.hid fun x y h1 h2 => ⟨by rw [HFN.out, h1], by rw [HRN.out, h2]⟩
            clear HFN HRN HFR HRO HKN HRC
            by_cases hz : rc = 0
            · have ha := ind_yes (HAC.out.1 hz)
              by_cases hf : rc = l.length
              · have hc := ind_yes (HCY.out.1 hf)
                obtain ⟨e1, e2⟩ := hfin.out _ _ rfl rfl
                rw [ha] at e1; rw [hc] at e2
                have q1 : ((rc : Int) == 0) = true := by rw [beq_iff_eq]; omega
                have q2 : ((rc : Int) == (l.length : Int)) = true := by rw [beq_iff_eq]; omega
                have q3 : (rc == l.length) = true := by rw [beq_iff_eq]; omega
                have E1 := Lib.hid e1; have E2 := Lib.hid e2
                clear ha hc e1 e2 hz hf HAC HCY hfin
                go_wp2_with fail
                go_roundg (M - (s + 1))
                case measure => omega
                case rel => exact ⟨s + 1, by omega, rfl, by go_num, by rw [E1.out]; go_num, by rw [E2.out]; go_num, HCG.out⟩
              · have hc := ind_no (p := Cyc (orient l s)) fun h => hf (HCY.out.2 h)
                obtain ⟨e1, e2⟩ := hfin.out _ _ rfl rfl
                rw [ha] at e1; rw [hc] at e2
                have q1 : ((rc : Int) == 0) = true := by rw [beq_iff_eq]; omega
                have q2 : ((rc : Int) == (l.length : Int)) = false := by rw [beq_eq_false_iff_ne]; omega
                have q3 : (rc == l.length) = false := by rw [beq_eq_false_iff_ne]; omega
                have E1 := Lib.hid e1; have E2 := Lib.hid e2
                clear ha hc e1 e2 HAC HCY hfin
                subst hz
                clear hf
                go_wp2_with fail
                go_roundg (M - (s + 1))
                case measure => omega
                case rel => exact ⟨s + 1, by omega, rfl, by go_num, by rw [E1.out]; go_num, by rw [E2.out]; go_num, HCG.out⟩
            · have ha := ind_no (p := Acy (orient l s)) fun h => hz (HAC.out.2 h)
              by_cases hf : rc = l.length
              · have hc := ind_yes (HCY.out.1 hf)
                obtain ⟨e1, e2⟩ := hfin.out _ _ rfl rfl
                rw [ha] at e1; rw [hc] at e2
                have q1 : ((rc : Int) == 0) = false := by rw [beq_eq_false_iff_ne]; omega
                have q2 : ((rc : Int) == (l.length : Int)) = true := by rw [beq_iff_eq]; omega
                have q3 : (rc == l.length) = true := by rw [beq_iff_eq]; omega
                have E1 := Lib.hid e1; have E2 := Lib.hid e2
                clear ha hc e1 e2 hz hf HAC HCY hfin
                go_wp2_with fail
                go_roundg (M - (s + 1))
                case measure => omega
                case rel => exact ⟨s + 1, by omega, rfl, by go_num, by rw [E1.out]; go_num, by rw [E2.out]; go_num, HCG.out⟩
              · have hc := ind_no (p := Cyc (orient l s)) fun h => hf (HCY.out.2 h)
                obtain ⟨e1, e2⟩ := hfin.out _ _ rfl rfl
                rw [ha] at e1; rw [hc] at e2
                have q1 : ((rc : Int) == 0) = false := by rw [beq_eq_false_iff_ne]; omega
                have q2 : ((rc : Int) == (l.length : Int)) = false := by rw [beq_eq_false_iff_ne]; omega
                have q3 : (rc == l.length) = false := by rw [beq_eq_false_iff_ne]; omega
                have E1 := Lib.hid e1; have E2 := Lib.hid e2
                clear ha hc e1 e2 hz hf HAC HCY hfin
                go_wp2_with fail
                go_roundg (M - (s + 1))
                case measure => omega
                case rel => exact ⟨s + 1, by omega, rfl, by go_num, by rw [E1.out]; go_num, by rw [E2.out]; go_num, HCG.out⟩
      · have hsM : s = M := by omega
        subst hsM
        have hd : decide ((s : Int) < wrap64 ((2 : Int) ^ l.length)) = false := by rw [HW.out, decide_eq_false_iff_not]; omega
        go_wp2_with fail
        go_ret3
        exact ⟨(_, _, _), .inr ⟨H0.out, by rw [HMM.out, HFR.out, HRO.out]⟩, rfl, HCG.out⟩
end Go.Proofs.Ytmmpdfcnenljhaa
