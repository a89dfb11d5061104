/- Stands of the reference, walked. Its conditions are its premises. -/
import Derived.Test.YtmmpdfcnenljhaaF18
set_option linter.unusedVariables false
namespace Go.Proofs.Ytmmpdfcnenljhaa
open Go.RowKit

set_option maxRecDepth 100000 in
set_option maxHeartbeats 2000000 in
theorem IsPart_any (p q : Int) (w : World) :
    Calls Try.prog 37 #[.agg #[.int .i64 p, .int .i64 q]] w fun e w' => e = .returned (.bool (decide (partOk p q))) ∧ Chg (fun _ => False) w w' := by
  have HC0 := Lib.hid ((Chg.refl (fun _ => False) w).alloc (.cells #[.int .i64 p, .int .i64 q] 32))
  by_cases k1 : q < 1
  · have d1 : decide (1 ≤ q) = false := by rw [decide_eq_false_iff_not]; omega
    have HR := Lib.hid (show decide (partOk p q) = false from decide_eq_false_iff_not.2 (fun h => by unfold partOk at h; omega))
    clear k1
    go_enter Try.func37, Try.ntmps37
    go_wp2_with fail
    go_ret
    exact ⟨by rw [HR.out]; rfl, HC0.out⟩
  · have d1 : decide (1 ≤ q) = true := by rw [decide_eq_true_eq]; omega
    by_cases k2 : 8 < q
    · have d2 : decide (q ≤ 8) = false := by rw [decide_eq_false_iff_not]; omega
      have HR := Lib.hid (show decide (partOk p q) = false from decide_eq_false_iff_not.2 (fun h => by unfold partOk at h; omega))
      clear k1 k2
      go_enter Try.func37, Try.ntmps37
      go_wp2_with fail
      go_ret
      exact ⟨by rw [HR.out]; rfl, HC0.out⟩
    · have d2 : decide (q ≤ 8) = true := by rw [decide_eq_true_eq]; omega
      by_cases k3 : p < 0
      · have d3 : decide (0 ≤ p) = false := by rw [decide_eq_false_iff_not]; omega
        have HR := Lib.hid (show decide (partOk p q) = false from decide_eq_false_iff_not.2 (fun h => by unfold partOk at h; omega))
        clear k1 k2 k3
        go_enter Try.func37, Try.ntmps37
        go_wp2_with fail
        go_ret
        exact ⟨by rw [HR.out]; rfl, HC0.out⟩
      · have d3 : decide (0 ≤ p) = true := by rw [decide_eq_true_eq]; omega
        by_cases k4 : q < p
        · have d4 : decide (p ≤ q) = false := by rw [decide_eq_false_iff_not]; omega
          have HR := Lib.hid (show decide (partOk p q) = false from decide_eq_false_iff_not.2 (fun h => by unfold partOk at h; omega))
          clear k1 k2 k3 k4
          go_enter Try.func37, Try.ntmps37
          go_wp2_with fail
          go_ret
          exact ⟨by rw [HR.out]; rfl, HC0.out⟩
        · have d4 : decide (p ≤ q) = true := by rw [decide_eq_true_eq]; omega
          obtain ⟨P, rfl⟩ : ∃ P : Nat, p = P := ⟨p.toNat, by omega⟩
          obtain ⟨Q, rfl⟩ : ∃ Q : Nat, q = Q := ⟨q.toNat, by omega⟩
          have d4' : decide (P ≤ Q) = true := by rw [decide_eq_true_eq]; omega
          have d2' : decide (Q ≤ 8) = true := by rw [decide_eq_true_eq]; omega
          have d1' : decide (1 ≤ Q) = true := by rw [decide_eq_true_eq]; omega
          have hQ8 : Q ≤ 8 := by omega
          have hPQ : P ≤ Q := by omega
          have hQ1 : 1 ≤ Q := by omega
          clear k1 k2 k3 k4
          go_enter Try.func37, Try.ntmps37
          go_wp2_with fail
          generalize w.alloc (.cells #[.int .i64 (P : Int), .int .i64 (Q : Int)] 32) = w1 at HC0 ⊢
          refine (rgcd_nat P Q w1 (by omega) (by omega)).mono ?_
          rintro e w2 ⟨rfl, z, rfl⟩
          have HR := Lib.hid (show partOk P Q ↔ Nat.gcd P Q = 1 from by
            unfold partOk; rw [Int.toNat_natCast, Int.toNat_natCast]; constructor
            · intro h; exact h.2.2.2.2
            · intro h; exact ⟨by omega, by omega, by omega, by omega, h⟩)
          obtain ⟨g, hg⟩ : ∃ g, Nat.gcd P Q = g := ⟨_, rfl⟩
          rw [hg] at HR ⊢
          clear hg d1 d2 d3 d4 d1' d2' d4'
          by_cases k5 : g = 1
          · subst k5
            go_wp2_with fail
            go_ret
            exact ⟨ret_bool (Eq.symm (decide_eq_true (by first | exact HR.out.2 rfl | exact HR.out.2 trivial))), HC0.out.trans (grow_chg w1 z) (fun _ x => x.elim)⟩
          · have d5 : ((g : Int) == 1) = false := by rw [beq_eq_false_iff_ne]; omega
            have HK := Lib.hid k5
            clear k5
            go_wp2_with fail
            go_ret
            exact ⟨ret_bool (Eq.symm (decide_eq_false (fun h => HK.out (HR.out.1 h)))), HC0.out.trans (grow_chg w1 z) (fun _ x => x.elim)⟩

theorem wrap_term1 (D : Nat) {P Q : Nat} (h : P ≤ Q) (k m : Nat) :
    wrap64 (wrap64 (D : Int) + wrap64 (wrap64 ((P : Int) ^ k) * wrap64 (((Q : Int) - (P : Int)) ^ (m - k)))) = wrap64 ((D + wgt P (Q - P) m k : Nat) : Int) := by
  rw [wrap64_add, wrap64_add_r, ← wrap64_add_r (D : Int), wrap64_mul, wrap64_mul_r, wrap64_add_r]
  unfold wgt
  rw [Int.natCast_add, Int.natCast_mul, Int.natCast_pow, Int.natCast_pow, Int.natCast_sub h]

theorem rpower_int (x k : Int) (w : World) (h0 : 0 ≤ k) (hk : k ≤ 1000) :
    Calls Try.prog 39 #[.int .i64 x, .int .i64 k] w fun e w' => e = .returned (.int .i64 (wrap64 (x ^ k.toNat))) ∧ w' = w := by
  obtain ⟨m, rfl⟩ := Int.eq_ofNat_of_zero_le h0
  exact rpower_any x m w (by omega)

set_option maxRecDepth 100000 in
set_option maxHeartbeats 4000000 in
theorem rStands_any (n : Int) (l : List Fe) (p q : Int) (a : Option Addr) (cap b off : Nat) (w : World) (hs : FencesAt w b off l) (ha : l = [] ∨ a = some ⟨b, off, none⟩) :
    Calls Try.prog 13 #[.int .i64 n, .slice a l.length cap, .agg #[.int .i64 p, .int .i64 q]] w (RPost (standsE n l p q) w) := by
  have HS := Lib.hid hs; have HA := Lib.hid ha
  clear hs ha
  obtain ⟨pb, hpb⟩ : ∃ pb, w.heap.size = pb := ⟨_, rfl⟩
  have HW0 : Hid (SW w pb p q ((w.alloc (.cells #[.int .i64 p, .int .i64 q] 32)).alloc (.cells #[.int .i64 0, .int .i64 0] 32))) := Lib.hid (by
    refine ⟨hpb ▸ (Blk.new w #[.int .i64 p, .int .i64 q] 32).alloc (.cells #[.int .i64 0, .int .i64 0] 32), ?_, ((Chg.refl (fun _ => False) w).alloc (.cells #[.int .i64 p, .int .i64 q] 32)).alloc (.cells #[.int .i64 0, .int .i64 0] 32)⟩
    have h := Blk.new (w.alloc (.cells #[.int .i64 p, .int .i64 q] 32)) #[.int .i64 0, .int .i64 0] 32
    rw [← hpb]
    simpa using h)
  go_enter Try.func13, Try.ntmps13
  go_wp2_with fail
  have hz : w.heap.size ≤ pb := by omega
  clear hpb
  generalize (w.alloc (.cells #[.int .i64 p, .int .i64 q] 32)).alloc (.cells #[.int .i64 0, .int .i64 0] 32) = W at HW0 ⊢
  refine (Garden_any n l a cap b off W (HS.out.chg HW0.out.chg (fun x => x)) HA.out).mono ?_
  rintro e w1 ⟨rfl, hc1⟩
  by_cases h0 : gardenE n l ≠ 0
  · have hq : (gardenE n l != 0) = true := by simpa using h0
    have HR := Lib.hid (standsE_err (p := p) (q := q) h0); have HW1 := Lib.hid (HW0.out.next hc1)
    clear h0 hc1
    as_aux_lemma =>
      have r0 := HW1.out.res.cell_some (i := 0) rfl; have r1 := HW1.out.res.cell_some (i := 1) rfl
      have f0 := HW1.out.res.free 0; have f1 := HW1.out.res.free 1
      go_wp2_with fail
      obtain ⟨hF, hcF⟩ := HW1.out.fin hz 0 0
      generalize (w1.setCell ⟨pb + 1, 0, none⟩ (.int .i64 0)).setCell ⟨pb + 1, 1, none⟩ (.int .i64 0) = WF at hF hcF ⊢
      have g0 := hF.cell_some (i := 0) rfl; have g1 := hF.cell_some (i := 1) rfl
      refine bodyPost_ret (v := .tuple #[.agg #[.int .i64 0, .int .i64 0], .int .i64 (gardenE n l)]) (by simp [results, Try.f13, go_sem, g0, g1]) rfl ?_
      exact ⟨by rw [HR.out], hcF⟩
  · have h0' : gardenE n l = 0 := by simpa using h0
    have hv := valid_of h0'
    obtain ⟨N, rfl⟩ : ∃ N : Nat, n = N := ⟨n.toNat, by have := hv.n1; omega⟩
    have H0 := Lib.hid h0'; have HW1 := Lib.hid (HW0.out.next hc1); have HV := Lib.hid hv
    rw [h0']
    clear h0 h0' hc1 hv
    have c0 := HW1.out.box.cell_some (i := 0) rfl; have c1 := HW1.out.box.cell_some (i := 1) rfl
    go_wp2_with fail
    clear c0 c1
    refine (IsPart_any p q w1).mono ?_
    rintro e w2 ⟨rfl, hc2⟩
    have HW2 := Lib.hid (HW1.out.next hc2)
    clear hc2 HW1
    by_cases hk : partOk p q
    · rw [decide_eq_true hk]
      obtain ⟨P, rfl⟩ : ∃ P : Nat, p = P := ⟨p.toNat, by unfold partOk at hk; omega⟩
      obtain ⟨Q, rfl⟩ : ∃ Q : Nat, q = Q := ⟨q.toNat, by unfold partOk at hk; omega⟩
      have HR := Lib.hid (standsE_ok H0.out hk)
      have hPQ : P ≤ Q := by unfold partOk at hk; omega
      have hQ8 : Q ≤ 8 := by unfold partOk at hk; omega
      have hQ1 : 1 ≤ Q := by unfold partOk at hk; omega
      clear hk
      have hl14 := HV.out.len
      obtain ⟨hw1, hw2⟩ := all_wraps hl14
      have hw2' : wrap64 ((2 : Int) ^ l.length - 1) = ((allV l : Nat) : Int) := hw2
      have HW2A := Lib.hid hw2'
      have HLT := Lib.hid (allV_lt hl14)
      clear hw2 hw2'
      go_wp2_with fail
      rw [HW2A.out]
      refine (rgroups_any N l a cap b off (allV l) w2 HV.out (HS.out.chg HW2.out.chg (fun x => x)) HA.out (by have := HLT.out; omega)).mono ?_
      rintro e w3 ⟨rfl, hc3⟩
      have HW3 := Lib.hid (HW2.out.next hc3)
      clear hc3 HW2 HW2A
      have hA14 : allV l < 16384 := HLT.out
      have hAM : allV l + 1 = 2 ^ l.length := by unfold allV; have := Nat.two_pow_pos l.length; omega
      have HWD : Hid (∀ S, S < 2 ^ l.length → holdB N l S = decide (groupsV N l S = groupsV N l (allV l))) := Lib.hid (fun S _ => rfl)
      have hM : 2 ^ l.length ≤ 16384 := by omega
      have hsz : ∀ s, s < 2 ^ l.length → sizeV s ≤ l.length := fun s h => sizeV_le h (by omega)
      have HSZ := Lib.hid hsz
      have hSS : refTo N l P (Q - P) (2 ^ l.length) = standSum N l P Q := rfl
      have HSS := Lib.hid hSS
      obtain ⟨M, hMM⟩ : ∃ M, 2 ^ l.length = M := ⟨_, rfl⟩
      have hMI : (2 : Int) ^ l.length = (M : Int) := by rw [← hMM]; simp
      have HMI := Lib.hid hMI
      rw [hMM] at HWD hM HSS HSZ
      have HMM := Lib.hid hMM
      obtain ⟨want, hwant⟩ : ∃ want, groupsV N l (allV l) = want := ⟨_, rfl⟩
      rw [hwant] at HWD ⊢
      have hw1' : wrap64 ((2 : Int) ^ l.length) = (M : Int) := by rw [hw1, hMI]
      have HW1' := Lib.hid hw1'
      clear hwant hMM hsz hAM hA14 HLT hSS hMI hw1
      go_wp2_with fail
      go_loopg [12, 11] M (fun gm sv nv wr => ∃ (s : Nat) (num : Int), s ≤ M ∧ gm = M - s ∧ sv = .int .i64 s ∧ nv = .int .i64 num ∧ Hid (num = wrap64 ((refTo N l P (Q - P) s : Nat) : Int)) ∧ SW w pb P Q wr)
      case atStart => exact ⟨0, 0, by omega, by omega, rfl, rfl, Lib.hid (by simp [refTo, wrap64]), HW3.out⟩
      case round =>
        clear HW3
        obtain ⟨s, num, hs, rfl, rfl, rfl, hnum, hsw⟩ := hrel
        have HW := Lib.hid hsw
        clear hsw
        by_cases hlt : s < M
        · have hss := HSZ.out s hlt
          have hd : decide ((s : Int) < (M : Int)) = true := by rw [decide_eq_true_eq]; omega
          go_wp2_with fail
          refine (rgroups_any N l a cap b off s wr HV.out (HS.out.chg HW.out.chg (fun x => x)) HA.out (by omega)).mono ?_
          rintro e w7 ⟨rfl, hc7⟩
          have HW7 := Lib.hid (HW.out.next hc7)
          clear hc7 HW
          have HHB := Lib.hid (HWD.out s hlt)
          obtain ⟨gs, hgs⟩ : ∃ gs, groupsV N l s = gs := ⟨_, rfl⟩
          rw [hgs] at HHB ⊢
          clear hgs
          by_cases hgw : gs = want
          · have HCN := Lib.hid (show refTo N l P (Q - P) (s + 1) = refTo N l P (Q - P) s + wgt P (Q - P) l.length (sizeV s) by rw [refTo, if_pos (by rw [HHB.out]; simpa using hgw)])
            have d1 : (gs == want) = true := by simpa using hgw
            have HSA := Lib.hid (fun w => size_any s l.length w (by rw [HMM.out]; exact hlt) (by omega))
            obtain ⟨sz, hsz⟩ : ∃ sz, sizeV s = sz := ⟨_, rfl⟩
            rw [hsz] at HCN hss
            simp only [hsz] at HSA
            clear hgw hsz
            go_wp2_with fail
            have c0 := HW7.out.box.cell_some (i := 0) rfl; have c1 := HW7.out.box.cell_some (i := 1) rfl
            have s1 : IntKind.i64.wrap ((Q : Int) - (P : Int)) = (Q : Int) - (P : Int) := IntWalk.i64_in _ (by omega)
            have s2 : IntKind.i64.wrap ((l.length : Int) - (sz : Int)) = (l.length : Int) - (sz : Int) := IntWalk.i64_in _ (by omega)
            go_quiet ((first | (go_at_call 40; exact Calls.quiet_of_same (HSA.out _)) | (go_at_call 39; exact Calls.quiet_of_same (rpower_int _ _ _ (by omega) (by omega)))))
            clear s1 s2 c0 c1
            go_wp2_with fail
            have HW8 := Lib.hid (HW7.out.next ((Chg.refl (fun _ => False) w7).drewN nq))
            go_roundg (M - (s + 1))
            case measure => omega
            case rel =>
              refine ⟨s + 1, _, by omega, rfl, by go_num, rfl, Lib.hid ?_, HW8.out⟩
              rw [HCN.out, hnum.out]
              exact wrap_term1 _ hPQ _ _
          · have HCN := Lib.hid (show refTo N l P (Q - P) (s + 1) = refTo N l P (Q - P) s by rw [refTo, if_neg (by rw [HHB.out]; simpa using hgw)])
            have d1 : (gs == want) = false := by simpa using hgw
            clear hgw
            go_wp2_with fail
            go_roundg (M - (s + 1))
            case measure => omega
            case rel => exact ⟨s + 1, num, by omega, rfl, by go_num, rfl, by rw [HCN.out]; exact hnum, HW7.out⟩
        · have hsM : s = M := by omega
          subst hsM
          have hsl := standSum_lt N l hl14 hQ8 hPQ
          have hnn : num = ((standSum N l P Q : Nat) : Int) := by rw [hnum.out, HSS.out]; exact wrap64_nat _ hsl
          have HBP := Lib.hid (wrap_pow hQ8 hl14)
          have hpq := Nat.le_trans (Nat.pow_le_pow_left hQ8 l.length) (pow8_le hl14)
          have hpp := Nat.pow_pos (n := l.length) (show 0 < Q by omega)
          subst hnn
          generalize standSum N l P Q = SS at hsl HR HSS ⊢
          generalize Q ^ l.length = DD at HBP hpq hpp HR
          clear hnum HSS HWD
          have c0 := HW.out.box.cell_some (i := 0) rfl; have c1 := HW.out.box.cell_some (i := 1) rfl
          go_wp2_with fail
          refine (rpower_any Q l.length wr (by omega)).mono ?_
          rintro e w9 ⟨rfl, rfl⟩
          rw [HBP.out]
          go_wp2_with fail
          refine (rgcd_nat SS DD w9 hsl (by omega)).mono ?_
          rintro e w10 ⟨rfl, z, rfl⟩
          have HW10 := Lib.hid (HW.out.next (grow_chg w9 z))
          generalize w9.grow z = w10 at HW10 ⊢
          clear c0 c1 HW
          have hg := Nat.gcd_pos_of_pos_right SS hpp
          obtain ⟨g, hgg⟩ : ∃ g, Nat.gcd SS DD = g := ⟨_, rfl⟩
          rw [hgg] at hg HR ⊢
          clear hgg
          have HW11 := Lib.hid (HW10.out.next ((Chg.refl (fun _ => False) w10).drew))
          have hgn : ¬ g = 0 := by omega
          have q1 : IntKind.i64.wrap ((SS : Int) / (g : Int)) = (SS : Int) / (g : Int) := (congrArg _ (by rw [Int.tdiv_eq_ediv_of_nonneg (by omega)])).trans (IntWalk.i64_quo SS g (by omega))
          have q2 : IntKind.i64.wrap ((DD : Int) / (g : Int)) = (DD : Int) / (g : Int) := (congrArg _ (by rw [Int.tdiv_eq_ediv_of_nonneg (by omega)])).trans (IntWalk.i64_quo DD g (by omega))
          have HPW := Lib.hid (show ∀ w, Calls Try.prog 39 #[.int .i64 (Q : Int), .int .i64 (l.length : Int)] w fun e w' => e = .returned (.int .i64 (DD : Int)) ∧ w' = w from fun w => (rpower_any Q l.length w (by omega)).mono fun e w' ⟨h1, h2⟩ => ⟨by rw [h1, HBP.out], h2⟩)
          go_wp2_with fail
          have c1 := HW10.out.box.cell_some (i := 1) rfl
          go_still_tail 10, (by kernel_rfl)
          still_call (HPW.out _)
          repeat still_step
          refine wpStill_nil ?_
          change wpList _ _ _ _ _ w10.drew
          clear c1
          generalize w10.drew = w11 at HW11 ⊢
          have r0 := HW11.out.res.cell_some (i := 0) rfl; have r1 := HW11.out.res.cell_some (i := 1) rfl
          have f0 := HW11.out.res.free 0; have f1 := HW11.out.res.free 1
          go_wp2_with fail
          obtain ⟨hF, hcF⟩ := HW11.out.fin hz ((SS : Int) / (g : Int)) ((DD : Int) / (g : Int))
          generalize (w11.setCell ⟨pb + 1, 0, none⟩ (.int .i64 ((SS : Int) / (g : Int)))).setCell ⟨pb + 1, 1, none⟩ (.int .i64 ((DD : Int) / (g : Int))) = WF at hF hcF ⊢
          have g0 := hF.cell_some (i := 0) rfl; have g1 := hF.cell_some (i := 1) rfl
          refine bodyPost_ret (v := .tuple #[.agg #[.int .i64 ((SS : Int) / (g : Int)), .int .i64 ((DD : Int) / (g : Int))], .int .i64 0]) (by simp [results, Try.f13, go_sem, g0, g1]) rfl ?_
          exact ⟨by rw [HR.out]; rfl, hcF⟩
    · have d5 := decide_eq_false hk
      have HR := Lib.hid (standsE_arg (p := p) (q := q) H0.out hk)
      have HW1 := HW2
      generalize w2 = w1 at HW1 ⊢
      rw [d5]
      clear d5 hk HW2
      as_aux_lemma =>
        have r0 := HW1.out.res.cell_some (i := 0) rfl; have r1 := HW1.out.res.cell_some (i := 1) rfl
        have f0 := HW1.out.res.free 0; have f1 := HW1.out.res.free 1
        go_wp2_with fail
        obtain ⟨hF, hcF⟩ := HW1.out.fin hz 0 0
        generalize (w1.setCell ⟨pb + 1, 0, none⟩ (.int .i64 0)).setCell ⟨pb + 1, 1, none⟩ (.int .i64 0) = WF at hF hcF ⊢
        have g0 := hF.cell_some (i := 0) rfl; have g1 := hF.cell_some (i := 1) rfl
        refine bodyPost_ret (v := .tuple #[.agg #[.int .i64 0, .int .i64 0], .int .i64 (2)]) (by simp [results, Try.f13, go_sem, g0, g1]) rfl ?_
        exact ⟨by rw [HR.out], hcF⟩
end Go.Proofs.Ytmmpdfcnenljhaa
