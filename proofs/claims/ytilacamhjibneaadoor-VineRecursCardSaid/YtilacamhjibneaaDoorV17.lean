/- The longest chain, walked. Its conditions are its premises. -/
import Derived.Test.YtilacamhjibneaaDoorV16
set_option linter.unusedVariables false
namespace Go.Proofs.YtilacamhjibneaaDoor
open Go.RowKit

/-- From i to j, and no way back. -/
def dn (V : List (List Nat)) (i j : Nat) : Bool := !decide (j = i) && cm (comesM V) i j && !cm (comesM V) j i
def mxF (g : Nat → Nat) (p : Nat → Bool) : Nat → Nat
  | 0 => 0
  | k + 1 => if p k = true then max (mxF g p k) (g k) else mxF g p k
def chF (V : List (List Nat)) : Nat → Nat → Nat
  | 0, _ => 0
  | f + 1, i => (if 0 < backV V i then 1 else 0) + mxF (chF V f) (dn V i) V.length
theorem mxF_le (g : Nat → Nat) (p : Nat → Bool) (m : Nat) (h : ∀ j, g j ≤ m) : ∀ k, mxF g p k ≤ m
  | 0 => Nat.zero_le _
  | k + 1 => by have := mxF_le g p m h k; have := h k; unfold mxF; split <;> omega
theorem chF_le (V : List (List Nat)) : ∀ f i, chF V f i ≤ f
  | 0, _ => Nat.le_refl _
  | f + 1, i => by
    have := mxF_le (chF V f) (dn V i) f (chF_le V f) V.length
    unfold chF
    split <;> omega

/-- How many parts come of i. -/
def rk (V : List (List Nat)) (i : Nat) : Nat := V.length - nf (comesR V i)
theorem nf_mono : ∀ (R R' : List Bool), R.length = R'.length → (∀ k, atB R' k = true → atB R k = true) → nf R ≤ nf R'
  | [], [], _, _ => Nat.le_refl _
  | [], _ :: _, h, _ => by simp at h
  | _ :: _, [], h, _ => by simp at h
  | x :: R, y :: R', hl, h => by
    have ih := nf_mono R R' (by simpa using hl) (fun k hk => by have := h (k + 1); unfold atB at *; simpa using this (by simpa using hk))
    have h0 := h 0
    unfold atB at h0
    cases x <;> cases y <;> simp [nf] at h0 ⊢ <;> omega
theorem nf_lt : ∀ (R R' : List Bool), R.length = R'.length → (∀ k, atB R' k = true → atB R k = true) → ∀ k, k < R.length → atB R k = true → atB R' k = false → nf R < nf R'
  | [], _, _, _, k, hk, _, _ => by simp at hk
  | _ :: _, [], h, _, _, _, _, _ => by simp at h
  | x :: R, y :: R', hl, h, 0, hk, h1, h2 => by
    have ih := nf_mono R R' (by simpa using hl) (fun k hk => by have := h (k + 1); unfold atB at *; simpa using this (by simpa using hk))
    unfold atB at h1 h2
    simp at h1 h2
    subst h1 h2
    simp [nf]
    omega
  | x :: R, y :: R', hl, h, k + 1, hk, h1, h2 => by
    have ih := nf_lt R R' (by simpa using hl) (fun k hk => by have := h (k + 1); unfold atB at *; simpa using this (by simpa using hk)) k (by simpa using hk) (by unfold atB at *; simpa using h1) (by unfold atB at *; simpa using h2)
    have h0 := h 0
    unfold atB at h0
    cases x <;> cases y <;> simp [nf] at h0 ⊢ <;> omega
theorem rk_le (V : List (List Nat)) (i : Nat) : rk V i ≤ V.length := Nat.sub_le _ _
theorem rk_pos {V : List (List Nat)} (hV : WF V) {i : Nat} (hi : i < V.length) : 0 < rk V i := by
  have hl := comesR_len hV hi
  have hs := (comesR_iff hV hi i).2 .refl
  have := nf_lt (comesR V i) (List.replicate V.length false) (by rw [hl]; simp) (fun k hk => by
    unfold atB at hk
    rw [List.getElem?_replicate] at hk
    split at hk <;> simp at hk) i (by rw [hl]; exact hi) hs (by unfold atB; rw [List.getElem?_replicate, if_pos hi]; rfl)
  have h2 := nf_le (List.replicate V.length false)
  rw [List.length_replicate] at h2
  unfold rk
  omega
theorem rk_dn {V : List (List Nat)} (hV : WF V) {i j : Nat} (hi : i < V.length) (hj : j < V.length) (h : dn V i j = true) : rk V j < rk V i := by
  unfold dn at h
  simp at h
  obtain ⟨⟨h1, h2⟩, h3⟩ := h
  have hl := comesR_len hV hi
  have hl2 := comesR_len hV hj
  rw [cm_eq hj] at h3
  have := nf_lt (comesR V i) (comesR V j) (by omega) (fun k hk => (comesR_iff hV hi k).2 (((cm_iff hV hi j).1 h2).trans ((comesR_iff hV hj k).1 hk))) i (by omega) ((comesR_iff hV hi i).2 .refl) h3
  have h4 := nf_le (comesR V j)
  unfold rk
  omega

set_option maxRecDepth 100000 in
set_option maxHeartbeats 1000000 in
theorem chain_any (V : List (List Nat)) (hV : WF V) (vb mb b off cap cb : Nat) : ∀ (f i : Nat), i < V.length → rk V i ≤ f → f ≤ V.length → ∀ (w : World), VAt w b off V → MAt w cb V → w.cell? ⟨vb, 0, none⟩ = some (.slice (some ⟨b, off, none⟩) V.length cap) →
    w.cell? ⟨mb, 0, none⟩ = some (.slice (some ⟨cb, 0, none⟩) V.length V.length) →
    Calls Tryd.prog 86 #[.slice (some ⟨b, off, none⟩) V.length cap, .int .i64 (i : Int), .slice (some ⟨cb, 0, none⟩) V.length V.length, .func (.func 85) #[] #[.pointer (some ⟨vb, 0, none⟩), .pointer (some ⟨mb, 0, none⟩)]] w fun e w' => e = .returned (.int .i64 (chF V f i : Int)) ∧ Chg (fun _ => False) w w' := by
  intro f
  induction f with
  | zero => intro i hi hr; have := rk_pos hV hi; omega
  | succ f ih =>
    intro i hi hr hfV w hv hm hvb hmb
    have hn6 := hV.le
    have HIH := Lib.hid ih
    have HV := Lib.hid hv; have HM := Lib.hid hm; have HMB := Lib.hid hmb; have HVB := Lib.hid hvb
    have HRI := Lib.hid hr
    have HWF := Lib.hid hV
    have HBK := Lib.hid (back_any V hV i hi vb mb b off cap cb w hv hm hvb hmb)
    have HCF := Lib.hid (show chF V (f + 1) i = (if 0 < backV V i then 1 else 0) + mxF (chF V f) (dn V i) V.length from rfl)
    have HMX := Lib.hid (mxF_le (chF V f) (dn V i) f (chF_le V f))
    have HCL := Lib.hid (chF_le V f)
    clear ih hv hm hvb hmb hr hV
    obtain ⟨K, hK⟩ : ∃ K, backV V i = K := ⟨_, rfl⟩
    rw [hK] at HBK HCF
    clear hK
    go_enter Tryd.func86, Tryd.ntmps86
    go_wp2_with fail
    refine HBK.out.mono ?_
    rintro e w1 ⟨rfl, hc1⟩
    have HC1 := Lib.hid hc1
    clear hc1
    obtain ⟨B, hB⟩ : ∃ B : Nat, (if 0 < K then 1 else 0) = B := ⟨_, rfl⟩
    rw [hB] at HCF
    have HB := Lib.hid hB
    clear hB
    by_cases hK0 : 0 < K
    all_goals
      have dk : decide ((0 : Int) < (K : Int)) = decide (0 < K) := by simp
      go_wp2_with fail
      go_loopg [18, 10] V.length (fun gm jv mv wr => ∃ j : Nat, j ≤ V.length ∧ gm = V.length - j ∧ jv = .int .i64 j ∧ mv = .int .i64 (mxF (chF V f) (dn V i) j) ∧ Chg (fun _ => False) w wr)
      case atStart => exact ⟨0, by omega, by omega, rfl, rfl, HC1.out⟩
      case round =>
        clear HC1
        obtain ⟨j, hj, rfl, rfl, rfl, hc⟩ := hrel
        have HC := Lib.hid hc
        clear hc
        by_cases hlt : j < V.length
        · have d0 : decide (j < V.length) = true := by simpa using hlt
          have hmx := HMX.out j
          have HSM := Lib.hid (show mxF (chF V f) (dn V i) (j + 1) = if dn V i j = true then max (mxF (chF V f) (dn V i) j) (chF V f j) else mxF (chF V f) (dn V i) j from rfl)
          have HRD := Lib.hid (rk_dn HWF.out hi hlt)
          have HDN := Lib.hid (show dn V i j = (!decide (j = i) && cm (comesM V) i j && !cm (comesM V) j i) from rfl)
          obtain ⟨M, hM⟩ : ∃ M, mxF (chF V f) (dn V i) j = M := ⟨_, rfl⟩
          rw [hM] at HSM hmx ⊢
          clear hM
          by_cases hji : j = i
          · have HDF := Lib.hid (show dn V i j = false by rw [HDN.out]; simp [hji])
            clear HDN HRD
            subst hji
            go_wp2_with fail
            go_roundg (V.length - (j + 1))
            case measure => omega
            case rel => exact ⟨j + 1, by omega, rfl, by go_num, by rw [HSM.out, HDF.out]; rfl, HC.out⟩
          · have d1 : ¬ (j : Int) = (i : Int) := by omega
            have HDJ := Lib.hid (show decide (j = i) = false by simpa using hji)
            clear hji
            have hm := HM.out.chg HC.out
            obtain ⟨g1, m1, m2⟩ := hm i hi
            have m3 := m2 j hlt
            obtain ⟨g2, m4, m5⟩ := hm j hlt
            have m6 := m5 i hi
            clear m2 m5 hm
            obtain ⟨x, hx⟩ : ∃ x, cm (comesM V) i j = x := ⟨_, rfl⟩
            obtain ⟨y, hy⟩ : ∃ y, cm (comesM V) j i = y := ⟨_, rfl⟩
            rw [hx, hy] at HDN
            rw [hx] at m3
            rw [hy] at m6
            rw [HDJ.out] at HDN
            clear hx hy
            cases x <;> cases y
            case true.false =>
              have HDT := Lib.hid (show dn V i j = true by rw [HDN.out]; rfl)
              rw [if_pos HDT.out] at HSM
              have HCH := Lib.hid (HIH.out j hlt (by have := HRD.out HDT.out; have := HRI.out; omega) (by omega) wr (HV.out.chg HC.out (fun x => x)) (HM.out.chg HC.out) (HC.out.cell_some HVB.out (fun x => x)) (HC.out.cell_some HMB.out (fun x => x)))
              have hcl := HCL.out j
              obtain ⟨N, hN⟩ : ∃ N, chF V f j = N := ⟨_, rfl⟩
              rw [hN] at HCH HSM hcl
              clear hN
              go_wp2_with fail
              refine HCH.out.mono ?_
              rintro e w2 ⟨rfl, hc2⟩
              have HC2 := Lib.hid (HC.out.trans hc2 (fun _ x => x.elim))
              clear hc2
              go_wp2_with fail
              go_roundg (V.length - (j + 1))
              case measure => omega
              case rel => exact ⟨j + 1, by omega, rfl, by go_num, by rw [HSM.out]; congr 1; omega, HC2.out⟩
            all_goals
              have HDF := Lib.hid (show dn V i j = false by rw [HDN.out]; rfl)
              go_wp2_with fail
              go_roundg (V.length - (j + 1))
              case measure => omega
              case rel => exact ⟨j + 1, by omega, rfl, by go_num, by rw [HSM.out, HDF.out]; rfl, HC.out⟩
        · obtain rfl : j = V.length := by omega
          have hmx := HMX.out V.length
          go_wp2_with fail
          go_ret
          refine ⟨?_, HC.out⟩
          rw [HCF.out, ← HB.out]
          first | rw [if_pos hK0] | rw [if_neg hK0]
          refine ret_int ?_
          have := HMX.out V.length
          first | omega | go_num | (simp; done) | trace_state
end Go.Proofs.YtilacamhjibneaaDoor
