/- The parts' kinds, walked. Its conditions are its premises. -/
import Derived.Test.YtilacamhjibneaaDoorV17
set_option linter.unusedVariables false
namespace Go.Proofs.YtilacamhjibneaaDoor
open Go.RowKit

/-- A part that comes of i among the first k comes back more than once. -/
def wlF (V : List (List Nat)) (i : Nat) : Nat → Bool
  | 0 => false
  | j + 1 => if (cm (comesM V) i j && decide (1 < backV V j)) = true then true else wlF V i j
def wildV (V : List (List Nat)) (i : Nat) : Bool := wlF V i V.length
def natS (V : List (List Nat)) (i : Nat) : Nat := if wildV V i = true then 0 else chF V V.length i
def natK (V : List (List Nat)) (i : Nat) : Nat := if wildV V i = true then 3 else if 1 < natS V i then 2 else if natS V i = 1 then 1 else 0
def setF (n : Nat) (g : Nat → Nat) : Nat → List Nat
  | 0 => List.replicate n 0
  | i + 1 => (setF n g i).set i (g i)
theorem setF_len (n : Nat) (g : Nat → Nat) : ∀ k, (setF n g k).length = n
  | 0 => by simp [setF]
  | k + 1 => by rw [setF, List.length_set, setF_len n g k]
theorem setF_at (n : Nat) (g : Nat → Nat) (c : Nat) (hc : c < n) : ∀ k, k ≤ n → at0 (setF n g k) c = if c < k then g c else 0
  | 0, _ => by
    unfold setF at0
    rw [List.getElem?_replicate, if_pos hc]
    rfl
  | k + 1, hk => by
    rw [setF, at0_set _ _ _ _ (by rw [setF_len]; omega), setF_at n g c hc k (by omega)]
    by_cases h : k = c
    · subst h; rw [if_pos rfl, if_pos (by omega)]
    · rw [if_neg h]
      by_cases h2 : c < k
      · rw [if_pos h2, if_pos (by omega)]
      · rw [if_neg h2, if_neg (by omega)]
theorem setF_zero (n : Nat) (g : Nat → Nat) (k : Nat) (hk : k < n) (h : g k = 0) : setF n g (k + 1) = setF n g k := by
  rw [setF, h]
  apply List.ext_getElem?
  intro j
  rw [List.getElem?_set]
  by_cases hj : k = j
  · subst hj
    have h1 := setF_at n g k hk k (by omega)
    rw [if_neg (by omega)] at h1
    have h2 : k < (setF n g k).length := by rw [setF_len]; exact hk
    rw [if_pos rfl, if_pos h2, List.getElem?_eq_getElem h2]
    rw [at0_lt_of h2] at h1
    rw [h1]
  · rw [if_neg hj]
theorem make_ints (N : Nat) (hN : N ≤ 1000) (w : World) : (Instr.makeSlice 29 (.int .i64 N) (.int .i64 N)).run Tryd.prog w = .ok (.slice (some ⟨w.heap.size, 0, none⟩) N N) (w.alloc (.cells (Array.replicate N (.int .i64 0)) 3)) := by
  obtain ⟨i0, hi0, hz0, hz1, hz2⟩ := info_parts info3
  have := run_make (P := Tryd.prog) w 29 3 i0 _ Tryd.underlying29 hi0 hz0 .i64 .i64 N N (by omega) (by omega) (by rw [hz2]; omega) (by omega)
  rw [this, hz1, Nat.mul_one, show (Value.int .i64 0).cells = #[Value.int .i64 0] from rfl, madeCells_one]
  rfl
theorem made_ints (N : Nat) (w : World) : Blk (w.alloc (.cells (Array.replicate N (.int .i64 0)) 3)) w.heap.size 3 (nv (List.replicate N 0)) := by
  have := Blk.new w (Array.replicate N (.int .i64 0)) 3
  simpa [nv] using this

/-- The two lists in memory. -/
structure NM (w0 w : World) (kb sb : Nat) (K S : List Nat) : Prop where
  bk : Blk w kb 3 (nv K)
  bs : Blk w sb 3 (nv S)
  ne : kb ≠ sb
  ok : w0.heap.size ≤ kb
  os : w0.heap.size ≤ sb
  chg : Chg (fun _ => False) w0 w
theorem NM.kept {w0 w w' : World} {kb sb : Nat} {K S : List Nat} (h : NM w0 w kb sb K S) (hc : Chg (fun _ => False) w w') : NM w0 w' kb sb K S :=
  ⟨hc.blk h.bk (fun x => x), hc.blk h.bs (fun x => x), h.ne, h.ok, h.os, h.chg.trans hc (fun _ x => x.elim)⟩
theorem NM.setK {w0 w : World} {kb sb : Nat} {K S : List Nat} (h : NM w0 w kb sb K S) (i v : Nat) : NM w0 (w.setCell ⟨kb, i, none⟩ (.int .i64 (v : Int))) kb sb (K.set i v) S :=
  ⟨by rw [nv_set]; exact h.bk.set i _, h.bs.setOther (a := ⟨kb, i, none⟩) h.ne _, h.ne, h.ok, h.os, h.chg.setCell (.inr h.ok) _⟩
theorem NM.setS {w0 w : World} {kb sb : Nat} {K S : List Nat} (h : NM w0 w kb sb K S) (i v : Nat) : NM w0 (w.setCell ⟨sb, i, none⟩ (.int .i64 (v : Int))) kb sb K (S.set i v) :=
  ⟨h.bk.setOther (a := ⟨sb, i, none⟩) (fun e => h.ne e.symm) _, by rw [nv_set]; exact h.bs.set i _, h.ne, h.ok, h.os, h.chg.setCell (.inr h.os) _⟩

set_option maxRecDepth 100000 in
set_option maxHeartbeats 1000000 in
theorem nature_any (V : List (List Nat)) (hV : WF V) (b off cap : Nat) (w : World) (hv : VAt w b off V) :
    Calls Tryd.prog 61 #[.slice (some ⟨b, off, none⟩) V.length cap] w fun e w' => ∃ kb sb, e = .returned (.tuple #[.slice (some ⟨kb, 0, none⟩) V.length V.length, .slice (some ⟨sb, 0, none⟩) V.length V.length]) ∧
      NatsAt w' kb 0 (setF V.length (natK V) V.length) ∧ NatsAt w' sb 0 (setF V.length (natS V) V.length) ∧ Chg (fun _ => False) w w' := by
  have hn6 := hV.le
  have hmi := make_ints V.length (by omega)
  have HWF := Lib.hid hV
  have HV0 := Lib.hid (hv.chg ((Chg.refl (fun _ => False) w).alloc (.cells #[.slice (some ⟨b, off, none⟩) V.length cap] 59)) (fun x => x))
  have HVB0 := Lib.hid ((Blk.new w #[.slice (some ⟨b, off, none⟩) V.length cap] 59).cell_some (i := 0) rfl)
  have HC0 := Lib.hid ((Chg.refl (fun _ => False) w).alloc (.cells #[.slice (some ⟨b, off, none⟩) V.length cap] 59))
  obtain ⟨vb, hvb⟩ : ∃ vb, w.heap.size = vb := ⟨_, rfl⟩
  rw [hvb] at HVB0
  clear hv hV
  go_enter Tryd.func61, Tryd.ntmps61
  have c0 := HVB0.out
  go_wp2_with fail
  clear hvb c0
  generalize w.alloc (.cells #[.slice (some ⟨b, off, none⟩) V.length cap] 59) = W1 at HV0 HVB0 HC0 ⊢
  refine (comes_any V HWF.out b off cap W1 HV0.out).mono ?_
  rintro e W2 ⟨⟨cb, G, rfl, hG, hcm⟩, hc2⟩
  have HM2 := Lib.hid (hcm.mat HWF.out hG)
  have HV2 := Lib.hid (HV0.out.chg hc2 (fun x => x)); have HVB2 := Lib.hid (hc2.cell_some HVB0.out (fun x => x)); have HC2 := Lib.hid (HC0.out.trans hc2 (fun _ x => x.elim))
  clear hcm hG hc2 HV0 HVB0 HC0
  have c0 := HVB2.out
  obtain ⟨mb, hmb⟩ : ∃ mb, W2.heap.size = mb := ⟨_, rfl⟩
  go_upto_region 3 with (fail)
  have HMB3 := Lib.hid (Blk.new W2 #[.slice (some ⟨cb, 0, none⟩) V.length V.length] 75)
  rw [hmb] at HMB3
  obtain ⟨W3, hW3⟩ : ∃ W3, W2.alloc (.cells #[.slice (some ⟨cb, 0, none⟩) V.length V.length] 75) = W3 := ⟨_, rfl⟩
  have HCC := Lib.hid ((Chg.refl (fun _ => False) W2).alloc (.cells #[.slice (some ⟨cb, 0, none⟩) V.length V.length] 75))
  rw [hW3] at HMB3 HCC ⊢
  have HV3 := Lib.hid (HV2.out.chg HCC.out (fun x => x)); have HM3 := Lib.hid (HM2.out.chg HCC.out); have HVB3 := Lib.hid (HCC.out.cell_some HVB2.out (fun x => x)); have HC3 := Lib.hid (HC2.out.trans HCC.out (fun _ x => x.elim))
  clear hW3 hmb HCC HV2 HM2 HVB2 HC2 c0
  go_cut [6, 7] from 15 to 20 (fun kv sv wx => ∃ x y : Nat, kv = .slice (some ⟨x, 0, none⟩) V.length V.length ∧ sv = .slice (some ⟨y, 0, none⟩) V.length V.length ∧ NM W3 wx x y (List.replicate V.length 0) (List.replicate V.length 0))
  case first =>
    obtain ⟨kb, hkb⟩ : ∃ kb, W3.heap.size = kb := ⟨_, rfl⟩
    have c0 := HVB3.out
    have HC0 := (Chg.refl (fun _ => False) W3).alloc (.cells (Array.replicate V.length (.int .i64 0)) 3)
    have c1 := HC0.cell_some HVB3.out (fun x => x)
    have HBA := Lib.hid (made_ints V.length W3)
    have HBB := Lib.hid (made_ints V.length (W3.alloc (.cells (Array.replicate V.length (.int .i64 0)) 3)))
    have HBC := Lib.hid (HBA.out.alloc (.cells (Array.replicate V.length (.int .i64 0)) 3))
    have HCC := Lib.hid (HC0.alloc (.cells (Array.replicate V.length (.int .i64 0)) 3))
    rw [show (W3.alloc (.cells (Array.replicate V.length (.int .i64 0)) 3)).heap.size = kb + 1 by show (W3.heap.push _).size = _; rw [Array.size_push, hkb]] at HBB
    rw [hkb] at HBC
    have HKB := Lib.hid hkb
    clear HC0 HBA
    go_region
    all_goals
      go_wp2_with fail
      go_meet
      case rel =>
        first
        | exact ⟨kb, kb + 1, rfl, rfl, HBC.out.drew, HBB.out.drew, by omega, by rw [HKB.out]; exact Nat.le_refl _, by rw [HKB.out]; omega, HCC.out.drew⟩
        | exact ⟨kb + 1, kb, rfl, rfl, HBB.out.drew, HBC.out.drew, by omega, by rw [HKB.out]; omega, by rw [HKB.out]; exact Nat.le_refl _, HCC.out.drew⟩
  case rest =>
    obtain ⟨kb, sb, rfl, rfl, hnm⟩ := hcut
    have HNM := Lib.hid hnm
    clear hnm
    have c0 := HNM.out.chg.cell_some HVB3.out (fun x => x)
    go_wp2_with fail
    clear c0
    go_loopg [23] V.length (fun gm iv wr => ∃ i : Nat, i ≤ V.length ∧ gm = V.length - i ∧ iv = .int .i64 i ∧ NM W3 wr kb sb (setF V.length (natK V) i) (setF V.length (natS V) i))
    case atStart => exact ⟨0, by omega, by omega, rfl, HNM.out⟩
    case round =>
      clear HNM
      obtain ⟨i, hi, rfl, rfl, hnm⟩ := hrel
      have HNM := Lib.hid hnm
      clear hnm
      by_cases hlt : i < V.length
      · have d0 : decide (i < V.length) = true := by simpa using hlt
        have c0 := HNM.out.chg.cell_some HVB3.out (fun x => x)
        go_wp2_with fail
        clear c0
        go_loopg [28, 10] V.length (fun gm jv bv wr => ∃ j : Nat, j ≤ V.length ∧ gm = V.length - j ∧ jv = .int .i64 j ∧ bv = .bool (wlF V i j) ∧ NM W3 wr kb sb (setF V.length (natK V) i) (setF V.length (natS V) i))
        case atStart => exact ⟨0, by omega, by omega, rfl, rfl, HNM.out⟩
        case round =>
          clear HNM
          obtain ⟨j, hj, rfl, rfl, rfl, hnm⟩ := hrel
          have HNM := Lib.hid hnm
          clear hnm
          have HMW := Lib.hid (HM3.out.chg HNM.out.chg)
          have c0 := HNM.out.chg.cell_some HVB3.out (fun x => x)
          have c1 := HNM.out.chg.cell_some (HMB3.out.cell_some (i := 0) rfl) (fun x => x)
          have hvw := HV3.out.chg HNM.out.chg (fun x => x)
          by_cases hjl : j < V.length
          · have d1 : decide (j < V.length) = true := by simpa using hjl
            have HBK := Lib.hid (back_any V HWF.out j hjl vb mb b off cap cb wr hvw HMW.out c0 c1)
            have hK8 := backV_le HWF.out j
            obtain ⟨g1, m1, m2⟩ := HMW.out i hlt
            have m3 := m2 j hjl
            clear m2 hvw
            have HWS := Lib.hid (show wlF V i (j + 1) = if (cm (comesM V) i j && decide (1 < backV V j)) = true then true else wlF V i j from rfl)
            obtain ⟨x, hx⟩ : ∃ x, cm (comesM V) i j = x := ⟨_, rfl⟩
            obtain ⟨K, hK⟩ : ∃ K, backV V j = K := ⟨_, rfl⟩
            rw [hx] at m3 HWS
            rw [hK] at HBK HWS hK8
            clear hx hK
            cases x
            · go_wp2_with fail
              go_roundg (V.length - (j + 1))
              case measure => omega
              case rel => exact ⟨j + 1, by omega, rfl, by go_num, by rw [HWS.out]; rfl, HNM.out⟩
            · by_cases hK1 : 1 < K
              all_goals
                go_wp2_with fail
                refine HBK.out.mono ?_
                rintro e w2 ⟨rfl, hc2⟩
                have HNM2 := Lib.hid (HNM.out.kept hc2)
                clear hc2
                go_wp2_with fail
                go_roundg (V.length - (j + 1))
                case measure => omega
                case rel => exact ⟨j + 1, by omega, rfl, by go_num, by rw [HWS.out]; simp [hK1], HNM2.out⟩
          · obtain rfl : j = V.length := by omega
            have HCH := Lib.hid (chain_any V HWF.out vb mb b off cap cb V.length i hlt (rk_le V i) (Nat.le_refl _) wr hvw HMW.out c0 c1)
            have hch := chF_le V V.length i
            clear hvw HMW
            have HS := Lib.hid (show natS V i = if wlF V i V.length = true then 0 else chF V V.length i from rfl)
            have HK := Lib.hid (show natK V i = if wlF V i V.length = true then 3 else if 1 < natS V i then 2 else if natS V i = 1 then 1 else 0 from rfl)
            have HSZ := Lib.hid (setF_zero V.length (natK V) i hlt)
            have HS1 := Lib.hid (show setF V.length (natS V) (i + 1) = (setF V.length (natS V) i).set i (natS V i) from rfl)
            have HK1 := Lib.hid (show setF V.length (natK V) (i + 1) = (setF V.length (natK V) i).set i (natK V i) from rfl)
            obtain ⟨y, hy⟩ : ∃ y, wlF V i V.length = y := ⟨_, rfl⟩
            rw [hy] at HS HK ⊢
            clear hy
            cases y
            · rw [if_neg (by simp)] at HS HK
              obtain ⟨sz, hsz⟩ : ∃ sz, chF V V.length i = sz := ⟨_, rfl⟩
              rw [hsz] at HCH HS hch
              rw [HS.out] at HK HS1
              clear hsz c0 c1
              have c0 := HNM.out.chg.cell_some HVB3.out (fun x => x)
              have c1 := HNM.out.chg.cell_some (HMB3.out.cell_some (i := 0) rfl) (fun x => x)
              by_cases h1 : 1 < sz
              · rw [if_pos h1] at HK
                rw [HK.out] at HK1
                go_wp2_with fail
                refine HCH.out.mono ?_
                rintro e w2 ⟨rfl, hc2⟩
                have HNM2 := Lib.hid (HNM.out.kept hc2)
                clear hc2 c0 c1
                have s1 := HNM2.out.bs.cell_some (nv_at (i := i) (by rw [setF_len]; exact hlt))
                have s2 := HNM2.out.bs.free i
                have k1 := HNM2.out.bk.cell_some (nv_at (i := i) (by rw [setF_len]; exact hlt))
                have k2 := HNM2.out.bk.free i
                have hne := HNM2.out.ne
                go_wp2_with fail
                go_roundg (V.length - (i + 1))
                case measure => omega
                case rel => exact ⟨i + 1, by omega, rfl, by go_num, by rw [HS1.out, HK1.out]; exact (HNM2.out.setS i sz).setK i 2⟩
              · rw [if_neg h1] at HK
                by_cases h2 : sz = 1
                · rw [if_pos h2] at HK
                  rw [HK.out] at HK1
                  subst h2
                  go_wp2_with fail
                  refine HCH.out.mono ?_
                  rintro e w2 ⟨rfl, hc2⟩
                  have HNM2 := Lib.hid (HNM.out.kept hc2)
                  clear hc2 c0 c1
                  have s1 := HNM2.out.bs.cell_some (nv_at (i := i) (by rw [setF_len]; exact hlt))
                  have s2 := HNM2.out.bs.free i
                  have k1 := HNM2.out.bk.cell_some (nv_at (i := i) (by rw [setF_len]; exact hlt))
                  have k2 := HNM2.out.bk.free i
                  have hne := HNM2.out.ne
                  go_wp2_with fail
                  go_roundg (V.length - (i + 1))
                  case measure => omega
                  case rel => exact ⟨i + 1, by omega, rfl, by go_num, by rw [HS1.out, HK1.out]; exact (HNM2.out.setS i 1).setK i 1⟩
                · rw [if_neg h2] at HK
                  have HKZ := Lib.hid (HSZ.out HK.out)
                  go_wp2_with fail
                  refine HCH.out.mono ?_
                  rintro e w2 ⟨rfl, hc2⟩
                  have HNM2 := Lib.hid (HNM.out.kept hc2)
                  clear hc2 c0 c1
                  have s1 := HNM2.out.bs.cell_some (nv_at (i := i) (by rw [setF_len]; exact hlt))
                  have s2 := HNM2.out.bs.free i
                  go_wp2_with fail
                  go_roundg (V.length - (i + 1))
                  case measure => omega
                  case rel => exact ⟨i + 1, by omega, rfl, by go_num, by rw [HS1.out, HKZ.out]; exact HNM2.out.setS i sz⟩
            · rw [if_pos rfl] at HS HK
              rw [HS.out] at HS1
              rw [HK.out] at HK1
              clear HCH hch c0 c1
              have s1 := HNM.out.bs.cell_some (nv_at (i := i) (by rw [setF_len]; exact hlt))
              have s2 := HNM.out.bs.free i
              have k1 := HNM.out.bk.cell_some (nv_at (i := i) (by rw [setF_len]; exact hlt))
              have k2 := HNM.out.bk.free i
              have hne := HNM.out.ne
              go_wp2_with fail
              go_roundg (V.length - (i + 1))
              case measure => omega
              case rel => exact ⟨i + 1, by omega, rfl, by go_num, by rw [HS1.out, HK1.out]; exact (HNM.out.setS i 0).setK i 3⟩
      · obtain rfl : i = V.length := by omega
        go_wp2_with fail
        go_ret2
        exact ⟨kb, sb, rfl, nats_of_blk HNM.out.bk, nats_of_blk HNM.out.bs, HC3.out.trans HNM.out.chg (fun _ x => x.elim)⟩
end Go.Proofs.YtilacamhjibneaaDoor
