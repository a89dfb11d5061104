/- At, walked. Its conditions are its premises. -/
import Derived.Test.YtilacamhjibneaaDoorV35
set_option linter.unusedVariables false
namespace Go.Proofs.YtilacamhjibneaaDoor
open Go.RowKit

set_option maxRecDepth 100000 in
set_option maxHeartbeats 1000000 in
theorem at_ok (V : List (List Nat)) (hV : WF V) (t : List Nat) (ht : ∀ c ∈ t, c < V.length) (hl : t.length ≤ 30) (years place : Int) (hyi : I64 years) (hpi : I64 place) (b off cap : Nat) (w : World) (hv : VAt w b off V) :
    Calls Tryd.prog 41 #[.slice (some ⟨b, off, none⟩) V.length cap, .string (str t), .int .i64 years, .int .i64 place] w fun e w' => e = .returned (atOk V t years place) ∧ Chg (fun _ => False) w w' := by
  have HS := Lib.hid (shot_ok V hV t ht hl b off cap w hv)
  have HYR := Lib.hid (yearly_any years w)
  unfold I64 at hyi hpi
  by_cases hy : 0 ≤ years ∧ years ≤ 1000
  · obtain ⟨Y, rfl⟩ : ∃ Y : Nat, years = (Y : Int) := ⟨years.toNat, by omega⟩
    have hY : Y ≤ 1000 := by omega
    rw [decide_eq_true hy] at HYR
    have HR := Lib.hid (show atOk V t (Y : Int) place = if place < 0 then .tuple #[.string ⟨#[]⟩, .int .i64 4] else
        match atF V (Y : Int).toNat t place.toNat with
        | none => .tuple #[.string ⟨#[]⟩, .int .i64 6]
        | some c => .tuple #[.string (str [c]), .int .i64 0] from if_neg (by omega))
    clear hy hyi
    by_cases hp : place < 0
    · have d3 : decide (place < 0) = true := by simpa using hp
      have HR2 := Lib.hid (HR.out.trans (if_pos hp))
      clear hp HR
      go_enter Tryd.func41, Tryd.ntmps41
      go_wp2_with fail
      refine HS.out.mono ?_
      rintro e w1 ⟨rfl, rfl⟩
      go_wp2_with fail
      refine HYR.out.mono ?_
      rintro e w1 ⟨rfl, rfl⟩
      go_wp2_with fail
      go_ret2
      exact ⟨by rw [HR2.out]; rfl, Chg.refl _ _⟩
    · obtain ⟨L, rfl⟩ : ∃ L : Nat, place = (L : Int) := ⟨place.toNat, by omega⟩
      have d3 : decide ((L : Int) < 0) = false := by simp
      have hL : L < M63 := by unfold M63; omega
      have hwL : IntKind.u64.wrap (L : Int) = (L : Int) := by simp [IntKind.wrap, IntKind.bits, IntKind.signed]; omega
      have HR2 := Lib.hid (HR.out.trans (if_neg hp))
      clear hp HR hpi
      have HV := Lib.hid hv; have HWF := Lib.hid hV; have HT := Lib.hid ht
      have hn6 := hV.le
      have hmk := make_row V.length (by omega)
      have hmt : ∀ w : World, (Instr.makeSlice 86 (.int .i64 ((Y : Int) + 1)) (.int .i64 ((Y : Int) + 1))).run Tryd.prog w = .ok (.slice (some ⟨w.heap.size, 0, none⟩) (Y + 1) (Y + 1)) (w.alloc (.cells (Array.replicate (Y + 1) (.slice none 0 0)) 90)) := fun w => make_tab (Y + 1) (by omega) w
      have hn1 := hV.pos
      clear hv hV ht
      go_enter Tryd.func41, Tryd.ntmps41
      go_wp2_with fail
      refine HS.out.mono ?_
      rintro e w1 ⟨rfl, rfl⟩
      go_wp2_with fail
      refine HYR.out.mono ?_
      rintro e w1 ⟨rfl, rfl⟩
      have HLT := Lib.hid (made_tab (Y + 1) V w1)
      obtain ⟨tb, htb⟩ : ∃ tb, w1.heap.size = tb := ⟨_, rfl⟩
      rw [htb] at HLT
      obtain ⟨N, hN⟩ : ∃ N, Y + 1 = N := ⟨_, rfl⟩
      have HNY := Lib.hid hN
      simp only [hN] at HLT hmt
      have hN0 : 0 < N := by omega
      have hN2 : N ≤ 1001 := by omega
      clear hN
      go_upto_region 9 with (fail)
      clear htb hmt
      generalize w1.alloc (.cells (Array.replicate N (.slice none 0 0)) 90) = W0 at HLT ⊢
      have c1 := (HLT.out.outer.alloc (.cells (Array.replicate V.length (.int .u64 0)) 88)).cell_some (outG_next (n := V.length) (N := N) (G := []) hN0)
      have f1 := (HLT.out.outer.alloc (.cells (Array.replicate V.length (.int .u64 0)) 88)).free 0
      obtain ⟨rb, hrb⟩ : ∃ rb, W0.heap.size = rb := ⟨_, rfl⟩
      have HLP := Lib.hid (HLT.out.open_ (by simpa using hN0))
      rw [hrb] at HLP
      rw [List.length_nil] at HLP c1
      go_upto_region 10 with (fail)
      clear c1 f1 hrb HLT
      generalize (W0.alloc (.cells (Array.replicate V.length (.int .u64 0)) 88)).setCell ⟨tb, 0, none⟩ (.slice (some ⟨rb, 0, none⟩) V.length V.length) = W1 at HLP ⊢
      have HLP0 : Hid (LP w1 W1 tb N V [] rb (prF (tab V 0) V.length 0)) := Lib.hid (by unfold prF; simpa using HLP.out)
      clear HLP
      have c1 := HLP0.out.at_
      rw [List.length_nil] at c1
      go_wp2_with fail
      clear c1
      go_loopg [51] V.length (fun gm iv wr => ∃ i : Nat, i ≤ V.length ∧ gm = V.length - i ∧ iv = .int .i64 i ∧ LP w1 wr tb N V [] rb (prF (tab V 0) V.length i))
      case atStart => exact ⟨0, by omega, by omega, rfl, HLP0.out⟩
      case round =>
        clear HLP0
        obtain ⟨i, hi, rfl, rfl, hlp⟩ := hrel
        have HLP := Lib.hid hlp
        clear hlp
        by_cases hil : i < V.length
        · have d1 : decide (i < V.length) = true := by simpa using hil
          have c1 := HLP.out.at_
          rw [List.length_nil] at c1
          have k1 := HLP.out.row.cell_some (uv_at (i := i) (by rw [prF_len (tab_len V 0) (by omega)]; exact hil))
          have f1 := HLP.out.row.free i
          have HNX := Lib.hid (prF_next (tab_len V 0) hil)
          rw [tab_zero hil] at HNX
          go_wp2_with fail
          go_roundg (V.length - (i + 1))
          case measure => omega
          case rel => exact ⟨i + 1, by omega, rfl, by go_num, by rw [← HNX.out]; exact HLP.out.set i 1⟩
        · obtain rfl : i = V.length := by omega
          have HL1 : Hid (LT w1 wr tb N V [(rb, V.length)]) := Lib.hid (by
            have h := HLP.out
            rw [prF_done (tab_len V 0)] at h
            exact h.close)
          clear HLP
          go_wp2_with fail
          go_loopg [14] Y (fun gm yv wr => ∃ (y : Nat) (G : List (Nat × Nat)), 1 ≤ y ∧ y ≤ Y + 1 ∧ gm = Y + 1 - y ∧ yv = .int .i64 y ∧ G.length = y ∧ LT w1 wr tb N V G)
          case atStart => exact ⟨1, _, by omega, by omega, by omega, rfl, rfl, HL1.out⟩
          case round =>
            clear HL1
            obtain ⟨y, G, hy1, hyY, rfl, rfl, hG, hlt⟩ := hrel
            have HG := Lib.hid hG; have HLT := Lib.hid hlt
            clear hG hlt
            by_cases hyl : y ≤ Y
            · have d1 : decide ((y : Int) ≤ (Y : Int)) = true := by simp; omega
              have hyN : y < N := by have := HNY.out; omega
              have c1 := (HLT.out.outer.alloc (.cells (Array.replicate V.length (.int .u64 0)) 88)).cell_some (outG_next (n := V.length) (N := N) (G := G) (by rw [HG.out]; exact hyN))
              have f1 := (HLT.out.outer.alloc (.cells (Array.replicate V.length (.int .u64 0)) 88)).free y
              have HLP := Lib.hid (HLT.out.open_ (by rw [HG.out]; exact hyN))
              obtain ⟨rb, hrb⟩ : ∃ rb, wr.heap.size = rb := ⟨_, rfl⟩
              rw [hrb, HG.out] at HLP
              rw [HG.out] at c1
              go_wp2_with fail
              clear c1 f1 hrb HLT
              generalize (wr.alloc (.cells (Array.replicate V.length (.int .u64 0)) 88)).setCell ⟨tb, y, none⟩ (.slice (some ⟨rb, 0, none⟩) V.length V.length) = W2 at HLP ⊢
              have HTL := Lib.hid (tab_len V y)
              have HLP0 : Hid (LP w1 W2 tb N V G rb (prF (tab V y) V.length 0)) := Lib.hid (by unfold prF; simpa using HLP.out)
              clear HLP
              go_loopg [73] V.length (fun gm iv wr => ∃ i : Nat, i ≤ V.length ∧ gm = V.length - i ∧ iv = .int .i64 i ∧ LP w1 wr tb N V G rb (prF (tab V y) V.length i))
              case atStart => exact ⟨0, by omega, by omega, rfl, HLP0.out⟩
              case round =>
                clear HLP0
                obtain ⟨i, hi, rfl, rfl, hlp⟩ := hrel
                have HLP := Lib.hid hlp
                clear hlp
                by_cases hil : i < V.length
                · have d2 : decide (i < V.length) = true := by simpa using hil
                  have HNX := Lib.hid (prF_next HTL.out hil)
                  have c0 := (HV.out.chg HLP.out.chg (fun x => x)) i hil
                  rw [← part_lt hil] at c0
                  have hp8 := (HWF.out.part_le i).1
                  have HP := Lib.hid (HWF.out.part_le i).2
                  obtain ⟨z, hz⟩ : ∃ z, y = z + 1 := ⟨y - 1, by omega⟩
                  have HTS := Lib.hid (show at0 (tab V y) i = tbP (part V i) (tab V z) (part V i).length by rw [hz]; exact tab_succ hil)
                  have hz1 : (y : Int) - 1 = (z : Int) := by omega
                  have hzy : z < y := by omega
                  rw [HTS.out] at HNX
                  obtain ⟨q, hq⟩ : ∃ q, part V i = q := ⟨_, rfl⟩
                  rw [hq] at c0 hp8 HP HNX
                  clear hz hq HTS
                  have hsz := str_size q
                  have HST : Hid (LP w1 wr tb N V G rb ((prF (tab V y) V.length i).set i (tbP q (tab V z) 0))) := Lib.hid (by rw [show tbP q (tab V z) 0 = 0 from rfl, prF_set_zero HTL.out hil]; exact HLP.out)
                  go_wp2_with fail
                  clear c0
                  go_loopg [80] q.length (fun gm kv wr => ∃ k : Nat, k ≤ q.length ∧ gm = q.length - k ∧ kv = .int .i64 k ∧ LP w1 wr tb N V G rb ((prF (tab V y) V.length i).set i (tbP q (tab V z) k)))
                  case atStart => exact ⟨0, by omega, by omega, rfl, HST.out⟩
                  case round =>
                    clear HST HLP
                    obtain ⟨k, hk, rfl, rfl, hlp⟩ := hrel
                    have HLP := Lib.hid hlp
                    clear hlp
                    by_cases hkl : k < q.length
                    · have d3 : decide (k < q.length) = true := by simpa using hkl
                      have hcn := HP.out _ (List.getElem_mem hkl)
                      have hidx := index_chr hkl (by omega)
                      have hu8 := u8_chr q[k] (by omega)
                      have HSK : Hid (tbP q (tab V z) (k + 1) = min (tbP q (tab V z) k + at0 (tab V z) q[k]) M63) := Lib.hid (by rw [tbP, at0_lt_of hkl])
                      have hlen1 : ((prF (tab V y) V.length i).set i (tbP q (tab V z) k)).length = V.length := by rw [List.length_set]; exact prF_len HTL.out (by omega)
                      have k1 := HLP.out.row.cell_some (uv_at (i := i) (by rw [hlen1]; exact hil))
                      rw [show at0 ((prF (tab V y) V.length i).set i (tbP q (tab V z) k)) i = tbP q (tab V z) k by rw [at0_set _ _ _ _ (by rw [prF_len HTL.out (by omega)]; exact hil), if_pos rfl]] at k1
                      clear hlen1
                      obtain ⟨gz, cz, t1, t2⟩ := HLP.out.before (y := z) (by rw [HG.out]; exact hzy)
                      have t0 := HLP.out.at_
                      rw [HG.out] at t0
                      have t3 := t2 q[k] (by rw [tab_len]; exact hcn)
                      clear t2
                      have HPL := Lib.hid (far_any (tbP q (tab V z) k) (at0 (tab V z) q[k]) (tbP_le _ _ k) (tab_le V z _))
                      obtain ⟨d, hd⟩ : ∃ d, q[k] = d := ⟨_, rfl⟩
                      rw [hd] at hcn hu8 HSK t3 HPL
                      simp only [hd] at hidx
                      obtain ⟨D, hD⟩ : ∃ D, 97 + d = D := ⟨_, rfl⟩
                      rw [hD] at hu8
                      simp only [hD] at hidx
                      obtain ⟨x, hx⟩ : ∃ x, at0 (tab V z) d = x := ⟨_, rfl⟩
                      obtain ⟨u, hu⟩ : ∃ u, tbP q (tab V z) k = u := ⟨_, rfl⟩
                      rw [hx] at t3 HSK HPL
                      rw [hu] at HSK HPL k1 HLP
                      clear hd hD hx hu
                      have hdi : (d : Int) < (V.length : Int) := by omega
                      have hpi : (i : Int) < (V.length : Int) := by omega
                      have hzi : (z : Int) < (N : Int) := by omega
                      have hyi : (y : Int) < (N : Int) := by omega
                      have hwz : IntKind.i64.wrap (z : Int) = (z : Int) := IntWalk.i64_in _ (by omega)
                      have f1 := HLP.out.row.free i
                      go_wp2_with fail
                      go_still_tail 25, (by kernel_rfl)
                      still_call (HPL.out _)
                      repeat still_step
                      refine wpStill_nil ?_
                      change wpList _ _ _ _ _ wr.drew
                      have HB1 := Lib.hid (HLP.out.kept ((Chg.refl (fun _ => False) wr).drew))
                      clear k1 f1 hidx hu8 t0 t1 t3 hwz
                      generalize wr.drew = W1 at HB1 ⊢
                      have k1 := HB1.out.row.cell_some (uv_at (i := i) (by rw [List.length_set, prF_len HTL.out (by omega)]; exact hil))
                      have f1 := HB1.out.row.free i
                      go_wp2_with fail
                      go_roundg (q.length - (k + 1))
                      case measure => omega
                      case rel =>
                        refine ⟨k + 1, by omega, rfl, by go_num, ?_⟩
                        rw [HSK.out]
                        have h := HB1.out.set i (min (u + x) M63)
                        rw [List.set_set] at h
                        exact h
                    · obtain rfl : k = q.length := by omega
                      go_wp2_with fail
                      go_roundg (V.length - (i + 1))
                      case measure => omega
                      case rel => exact ⟨i + 1, by omega, rfl, by go_num, by rw [← HNX.out]; exact HLP.out⟩
                · obtain rfl : i = V.length := by omega
                  have HL2 : Hid (LT w1 wr tb N V (G ++ [(rb, V.length)])) := Lib.hid (by
                    have h := HLP.out
                    rw [prF_done HTL.out, ← HG.out] at h
                    exact h.close)
                  clear HLP
                  go_wp2_with fail
                  go_roundg (Y + 1 - (y + 1))
                  case measure => omega
                  case rel => exact ⟨y + 1, _, by omega, by omega, rfl, by go_num, by rw [List.length_append, HG.out]; rfl, HL2.out⟩
            · obtain rfl : y = Y + 1 := by omega
              have HTAB := Lib.hid (HLT.out.tab (Y := Y) (by rw [HG.out]; omega))
              have HC2 := Lib.hid HLT.out.chg
              have d1 : decide (((Y + 1 : Nat) : Int) ≤ (Y : Int)) = false := by simp; omega
              clear HLT HG hmk
              go_wp2_with fail
              obtain ⟨w3, hw3⟩ : ∃ w3 : World, w3 = wr := ⟨_, rfl⟩
              rw [← hw3] at HTAB HC2 ⊢
              clear hw3
              obtain ⟨RES, hRES⟩ : ∃ RES, atF V Y t L = RES := ⟨_, rfl⟩
              have HRES := Lib.hid hRES
              clear hRES
              go_loopg [20, 18, 19] Y (fun gm yv sv lv wr => ∃ (y : Nat) (s : List Nat) (l q : Nat), y ≤ Y ∧ y = gm ∧ yv = .int .i64 y ∧ sv = .string (str s) ∧ lv = .int .u64 (l : Int) ∧ (∀ c ∈ s, c < V.length) ∧ s.length ≤ 30 ∧ l < M63 ∧ atF V y s l = RES ∧ wr = w3.drewN q)
              case atStart => exact ⟨Y, t, L, 0, Nat.le_refl _, rfl, rfl, rfl, rfl, HT.out, hl, hL, HRES.out, rfl⟩
              case round =>
                obtain ⟨y, s, l, q, hyY, rfl, rfl, rfl, rfl, hs, hsl, hlm, ha, rfl⟩ := hrel
                have HSL := Lib.hid hs; have HA := Lib.hid ha
                clear hs ha
                obtain ⟨F, hF⟩ : ∃ F, fnd s (tab V y) l = F := ⟨_, rfl⟩
                have HF := Lib.hid hF
                obtain ⟨g1, c1, u1, u2⟩ := HTAB.out y hyY
                rw [Nat.zero_add] at u1
                have HU2 := Lib.hid u2; have HU1 := Lib.hid u1
                have hyi : (y : Int) < (N : Int) := by have := HNY.out; omega
                have hsz := str_size s
                have HTL := Lib.hid (tab_len V y)
                clear hF u2 u1
                go_wp2_with fail
                obtain ⟨wy, hwy⟩ : ∃ wy : World, wy = w3.drewN q := ⟨_, rfl⟩
                have HWY := Lib.hid hwy
                have HCY := Lib.hid (show Chg (fun _ => False) w1 wy by rw [hwy]; exact HC2.out.drewN q)
                rw [← hwy]
                clear hwy
                go_loopg [21, 19] s.length (fun gm iv lv wr => ∃ i l' p : Nat, i ≤ s.length ∧ gm = s.length - i ∧ iv = .int .i64 i ∧ lv = .int .u64 (l' : Int) ∧ l' < M63 ∧ fnd (s.drop i) (tab V y) l' = F ∧ wr = wy.drewN p)
                case atStart => exact ⟨0, l, 0, by omega, by omega, rfl, rfl, hlm, HF.out, rfl⟩
                case round =>
                  obtain ⟨i, l', p, hi, rfl, rfl, rfl, hlm', hff, rfl⟩ := hrel
                  by_cases hil : i < s.length
                  · have d2 : decide (i < s.length) = true := by simpa using hil
                    have hie : ¬ (i : Int) = (s.length : Int) := by omega
                    rw [fnd_drop hil] at hff
                    have HFF := Lib.hid hff
                    clear hff
                    have hcn := HSL.out _ (List.getElem_mem hil)
                    have hidx := index_chr hil (by omega)
                    have hu8 := u8_chr s[i] (by omega)
                    have HON := Lib.hid (str_one hil)
                    have u1 := HU1.out
                    have u3 := HU2.out s[i] (by rw [HTL.out]; exact hcn)
                    obtain ⟨c, hc⟩ : ∃ c, s[i] = c := ⟨_, rfl⟩
                    rw [hc] at hcn hu8 u3 HFF HON
                    simp only [hc] at hidx
                    obtain ⟨C, hC⟩ : ∃ C, 97 + c = C := ⟨_, rfl⟩
                    rw [hC] at hu8
                    simp only [hC] at hidx
                    obtain ⟨x, hx⟩ : ∃ x, at0 (tab V y) c = x := ⟨_, rfl⟩
                    rw [hx] at u3 HFF
                    clear hc hC hx
                    have hci : (c : Int) < (V.length : Int) := by omega
                    have u1' : wy.cell? ⟨tb, y, none⟩ = some (.slice (some ⟨g1, 0, none⟩) V.length c1) := by rw [HWY.out]; exact u1
                    have u3' : wy.cell? ⟨g1, c, none⟩ = some (.int .u64 (x : Int)) := by rw [HWY.out]; exact u3
                    clear u1 u3
                    by_cases hxl : x ≤ l'
                    · have d5 : decide (x ≤ l') = true := by simpa using hxl
                      rw [if_pos hxl] at HFF
                      have hwx : IntKind.u64.wrap ((l' : Int) - (x : Int)) = (l' : Int) - (x : Int) := by unfold M63 at hlm'; simp [IntKind.wrap, IntKind.bits, IntKind.signed]; omega
                      go_wp2_with fail
                      go_quiet (fail)
                      go_wp2_with fail
                      go_quiet (fail)
                      go_wp2_with fail
                      go_roundg (s.length - (i + 1))
                      case measure => omega
                      case rel => exact ⟨i + 1, l' - x, _, by omega, rfl, by go_num, by congr 1; omega, by omega, HFF.out, rfl⟩
                    · have d5 : decide (x ≤ l') = false := by simpa using hxl
                      rw [if_neg hxl] at HFF
                      cases y with
                      | zero =>
                        have HRC : Hid (RES = some c) := Lib.hid (by
                          have h := HA.out
                          rw [atF, HF.out, ← HFF.out] at h
                          simpa using h.symm)
                        go_wp2_with fail
                        go_quiet (fail)
                        go_wp2_with fail
                        go_ret2
                        refine ⟨?_, HCY.out.drewN _⟩
                        rw [HR2.out, show (Y : Int).toNat = Y from rfl, show (L : Int).toNat = L from rfl, HRES.out, HRC.out]
                        show _ = Ending.returned (.tuple #[.string (str [c]), .int .i64 0])
                        rw [← HON.out]
                        rfl
                      | succ y =>
                        have v1 := (HV.out.chg HC2.out (fun x => x)) c hcn
                        rw [← part_lt hcn] at v1
                        have v1' : wy.cell? ⟨b, off + c, none⟩ = some (.string (str (part V c))) := by rw [HWY.out]; exact v1
                        have HNA : Hid (atF V y (part V c) l' = RES) := Lib.hid (by
                          have h := HA.out
                          rw [atF, HF.out, ← HFF.out] at h
                          exact h)
                        have HPS := Lib.hid (HWF.out.part_le c)
                        obtain ⟨ps, hps⟩ : ∃ ps, part V c = ps := ⟨_, rfl⟩
                        rw [hps] at v1' HNA HPS
                        clear v1 hps
                        obtain ⟨z, hz⟩ : ∃ z, y + 1 = z := ⟨_, rfl⟩
                        have HZ := Lib.hid hz
                        have hz0 : ¬ (z : Int) = 0 := by omega
                        have hz1 : (z : Int) - 1 = (y : Int) := by omega
                        rw [hz] at u1' hyi hyY ⊢
                        clear hz
                        go_wp2_with fail
                        go_quiet (fail)
                        go_wp2_with fail
                        go_roundg y
                        case measure => omega
                        case rel => exact ⟨y, ps, l', q + (p + nq), by have := HZ.out; omega, rfl, rfl, rfl, rfl, HPS.out.2, by have := HPS.out.1; omega, hlm', HNA.out, by rw [HWY.out]; simp⟩
                  · obtain rfl : i = s.length := by omega
                    have d2 : decide (s.length < s.length) = false := by simp
                    rw [List.drop_length] at hff
                    have HRN : Hid (RES = none) := Lib.hid (by
                      have h := HA.out
                      cases y <;> (rw [atF, HF.out, ← hff] at h; simpa [fnd] using h.symm))
                    clear hff
                    go_wp2_with fail
                    go_quiet (fail)
                    go_wp2_with fail
                    go_ret2
                    refine ⟨?_, HCY.out.drewN _⟩
                    rw [HR2.out, show (Y : Int).toNat = Y from rfl, show (L : Int).toNat = L from rfl, HRES.out, HRN.out]
                    rfl
  · have HR := Lib.hid (show atOk V t years place = .tuple #[.string ⟨#[]⟩, .int .i64 3] from if_pos hy)
    rw [decide_eq_false hy] at HYR
    clear hy
    go_enter Tryd.func41, Tryd.ntmps41
    go_wp2_with fail
    refine HS.out.mono ?_
    rintro e w1 ⟨rfl, rfl⟩
    go_wp2_with fail
    refine HYR.out.mono ?_
    rintro e w1 ⟨rfl, rfl⟩
    go_wp2_with fail
    go_ret2
    exact ⟨by rw [HR.out]; rfl, Chg.refl _ _⟩
end Go.Proofs.YtilacamhjibneaaDoor
