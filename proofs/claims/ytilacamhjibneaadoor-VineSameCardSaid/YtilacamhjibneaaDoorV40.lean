/- Same of the reference, walked. Its conditions are its premises. -/
import Derived.Test.YtilacamhjibneaaDoorV39
set_option linter.unusedVariables false
namespace Go.Proofs.YtilacamhjibneaaDoor
open Go.RowKit

set_option maxRecDepth 100000 in
set_option maxHeartbeats 1000000 in
theorem rsame_ok (V : List (List Nat)) (hV : WF V) (t : List Nat) (ht : ∀ c ∈ t, c < V.length) (hl : t.length ≤ 30) (b off cap : Nat) (W : List (List Nat)) (hW : WF W) (u : List Nat) (hu : ∀ c ∈ u, c < W.length) (hul : u.length ≤ 30) (b2 off2 cap2 : Nat) (w : World) (hv : VAt w b off V) (hw : VAt w b2 off2 W) :
    Calls Tryd.prog 38 #[.slice (some ⟨b, off, none⟩) V.length cap, .string (str t), .slice (some ⟨b2, off2, none⟩) W.length cap2, .string (str u)] w fun e w' => e = .returned (sameF (ln V t) (ln W u) (V.length + W.length) 0) ∧ Chg (fun _ => False) w w' := by
  have hn6 := hV.le
  have hm6 := hW.le
  have HBO := Lib.hid (both_ok V hV t ht hl b off cap W hW u hu hul b2 off2 cap2 w hv hw)
  have HV := Lib.hid hv; have HW := Lib.hid hw; have HWV := Lib.hid hV; have HWW := Lib.hid hW; have HT := Lib.hid ht; have HU := Lib.hid hu
  obtain ⟨R, hR⟩ : ∃ R, sameF (ln V t) (ln W u) (V.length + W.length) 0 = R := ⟨_, rfl⟩
  have HR := Lib.hid hR
  rw [hR]
  obtain ⟨N, hN⟩ : ∃ N, V.length + W.length = N := ⟨_, rfl⟩
  have HN := Lib.hid hN
  have hNI : (V.length : Int) + (W.length : Int) = (N : Int) := by omega
  have hN12 : N ≤ 12 := by omega
  have HTV := Lib.hid (table_any V hV N (by omega) b off cap w hv)
  obtain ⟨st, hst⟩ : ∃ st, str t = st := ⟨_, rfl⟩
  obtain ⟨su, hsu⟩ : ∃ su, str u = su := ⟨_, rfl⟩
  have HST := Lib.hid hst; have HSU := Lib.hid hsu
  rw [hst, hsu] at HBO ⊢
  clear hv hw hV hW ht hu hR hN hst hsu
  go_enter Tryd.func38, Tryd.ntmps38
  go_wp2_with fail
  refine HBO.out.mono ?_
  rintro e w1 ⟨rfl, rfl⟩
  go_wp2_with fail
  refine HTV.out.mono ?_
  rintro e w2 ⟨⟨ga, ca, rfl, ha⟩, hc2⟩
  have HA := Lib.hid ha; have HC2 := Lib.hid hc2
  clear ha hc2
  go_wp2_with fail
  refine (table_any W HWW.out N (by omega) b2 off2 cap2 w2 (HW.out.chg HC2.out (fun x => x))).mono ?_
  rintro e w3 ⟨⟨gb, cb, rfl, hb⟩, hc3⟩
  have HB := Lib.hid hb; have HA3 := Lib.hid (HA.out.chg hc3); have HC3 := Lib.hid (HC2.out.trans hc3 (fun _ x => x.elim))
  clear hb hc3
  obtain ⟨M, hM⟩ : ∃ M, N + 1 = M := ⟨_, rfl⟩
  rw [hM]
  have hMN : N < M := by omega
  clear hM
  go_wp2_with fail
  go_loopg [14] N (fun gm kv wr => ∃ k q : Nat, k ≤ N ∧ gm = N - k ∧ kv = .int .i64 k ∧ sameF (ln V t) (ln W u) (N - k) k = R ∧ wr = w3.drewN q)
  case atStart => exact ⟨0, 0, by omega, by omega, rfl, by rw [← HN.out]; exact HR.out, rfl⟩
  case round =>
    obtain ⟨k, q, hk, rfl, rfl, hr, rfl⟩ := hrel
    have HRR := Lib.hid hr
    clear hr
    by_cases hlt : k < N
    · have d0 : decide (k < N) = true := by simpa using hlt
      have hkM : (k : Int) < (M : Int) := by omega
      obtain ⟨g1, c1, t1, t2⟩ := HA3.out k hk
      obtain ⟨g2, c2, u1, u2⟩ := HB.out k hk
      rw [Nat.zero_add] at t1 u1
      obtain ⟨wq, hwq⟩ : ∃ wq : World, wq = w3.drewN q := ⟨_, rfl⟩
      have HWQ := Lib.hid hwq
      have HCQ := Lib.hid (show Chg (fun _ => False) w3 wq by rw [hwq]; exact (Chg.refl _ w3).drewN q)
      have HL1 : Hid (∀ p, Calls Tryd.prog 74 #[.string st, .slice (some ⟨g1, 0, none⟩) V.length c1] (wq.drewN p) fun e w' => e = .returned (.int .u64 (ln V t k : Nat)) ∧ w' = wq.drewN p) := Lib.hid (fun p => by
        have h := long_any t (tab V k) V.length (by omega) HT.out (tab_len V k) (tab_le V k) (by omega) g1 c1 (wq.drewN p) ((t2.chg HCQ.out (fun x => x)).chg ((Chg.refl (fun _ => False) wq).drewN p) (fun x => x))
        rw [lng_ln HWV.out HT.out hl (by omega), HST.out] at h
        exact h)
      have HL2 : Hid (∀ p, Calls Tryd.prog 74 #[.string su, .slice (some ⟨g2, 0, none⟩) W.length c2] (wq.drewN p) fun e w' => e = .returned (.int .u64 (ln W u k : Nat)) ∧ w' = wq.drewN p) := Lib.hid (fun p => by
        have h := long_any u (tab W k) W.length (by omega) HU.out (tab_len W k) (tab_le W k) (by omega) g2 c2 (wq.drewN p) ((u2.chg HCQ.out (fun x => x)).chg ((Chg.refl (fun _ => False) wq).drewN p) (fun x => x))
        rw [lng_ln HWW.out HU.out hul (by omega), HSU.out] at h
        exact h)
      have t1' := HCQ.out.cell_some t1 (fun x => x)
      have u1' := HCQ.out.cell_some u1 (fun x => x)
      rw [← hwq]
      clear t1 u1 t2 u2 hwq
      obtain ⟨f, hf⟩ : ∃ f, N - k = f + 1 := ⟨N - k - 1, by omega⟩
      have HF := Lib.hid hf
      have HRN : Hid ((if ln V t k = ln W u k then sameF (ln V t) (ln W u) f (k + 1) else .tuple #[.int .i64 (k : Int), .int .i64 0]) = R) := Lib.hid (by rw [← HRR.out, hf]; rfl)
      clear hf
      obtain ⟨x, hx⟩ : ∃ x, ln V t k = x := ⟨_, rfl⟩
      obtain ⟨y, hy⟩ : ∃ y, ln W u k = y := ⟨_, rfl⟩
      rw [hx] at HL1 HRN
      rw [hy] at HL2 HRN
      clear hx hy
      by_cases hxy : x = y
      · rw [if_pos hxy] at HRN
        subst hxy
        go_wp2_with fail
        go_quiet ((first
          | (with_reducible refine Calls.quiet_of_same (HL1.out _))
          | (with_reducible refine Calls.quiet_of_same (HL2.out _))))
        go_wp2_with fail
        go_roundg (N - (k + 1))
        case measure => omega
        case rel => exact ⟨k + 1, q + nq, by omega, rfl, by go_num, by rw [show N - (k + 1) = f by have := HF.out; omega]; exact HRN.out, by rw [HWQ.out]; simp⟩
      · have hxy' : ¬ (x : Int) = (y : Int) := by omega
        rw [if_neg hxy] at HRN
        go_wp2_with fail
        go_quiet ((first
          | (with_reducible refine Calls.quiet_of_same (HL1.out _))
          | (with_reducible refine Calls.quiet_of_same (HL2.out _))))
        go_wp2_with fail
        go_ret2
        exact ⟨by rw [← HRN.out]; rfl, (HC3.out.trans HCQ.out (fun _ x => x.elim)).drewN _⟩
    · obtain rfl : k = N := by omega
      have HRN : Hid (.tuple #[.int .i64 0, .int .i64 10] = R) := Lib.hid (by rw [← HRR.out, Nat.sub_self]; rfl)
      go_wp2_with fail
      go_ret2
      exact ⟨by rw [← HRN.out]; rfl, HC3.out.drewN _⟩
end Go.Proofs.YtilacamhjibneaaDoor
