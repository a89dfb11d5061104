/- At of the reference, walked. Its conditions are its premises. -/
import Derived.Test.YtilacamhjibneaaDoorV33
set_option linter.unusedVariables false
namespace Go.Proofs.YtilacamhjibneaaDoor
open Go.RowKit

set_option maxRecDepth 100000 in
set_option maxHeartbeats 1000000 in
theorem rAt_ok (V : List (List Nat)) (hV : WF V) (t : List Nat) (ht : ∀ c ∈ t, c < V.length) (hl : t.length ≤ 30) (years place : Int) (hyi : I64 years) (hpi : I64 place) (b off cap : Nat) (w : World) (hv : VAt w b off V) :
    Calls Tryd.prog 42 #[.slice (some ⟨b, off, none⟩) V.length cap, .string (str t), .int .i64 years, .int .i64 place] w fun e w' => e = .returned (atOk V t years place) ∧ Chg (fun _ => False) w w' := by
  have HS := Lib.hid (rshoot_ok V hV t ht hl b off cap w hv)
  unfold I64 at hyi hpi
  by_cases hy : 0 ≤ years ∧ years ≤ 1000
  · obtain ⟨Y, rfl⟩ : ∃ Y : Nat, years = (Y : Int) := ⟨years.toNat, by omega⟩
    have hY : Y ≤ 1000 := by omega
    have d1 : decide ((Y : Int) < 0) = false := by simp
    have d2 : decide ((1000 : Int) < (Y : Int)) = false := by simp; omega
    have HR := Lib.hid (show atOk V t (Y : Int) place = if place < 0 then .tuple #[.string ⟨#[]⟩, .int .i64 4] else
        match atF V (Y : Int).toNat t place.toNat with
        | none => .tuple #[.string ⟨#[]⟩, .int .i64 6]
        | some c => .tuple #[.string (str [c]), .int .i64 0] from if_neg (by omega))
    clear hy hyi
    by_cases hp : place < 0
    · have d3 : decide (place < 0) = true := by simpa using hp
      have HR2 := Lib.hid (HR.out.trans (if_pos hp))
      clear hp HR
      go_enter Tryd.func42, Tryd.ntmps42
      go_wp2_with fail
      refine HS.out.mono ?_
      rintro e w1 ⟨rfl, rfl⟩
      go_wp2_with fail
      go_ret2
      exact ⟨by rw [HR2.out]; rfl, Chg.refl _ _⟩
    · obtain ⟨L, rfl⟩ : ∃ L : Nat, place = (L : Int) := ⟨place.toNat, by omega⟩
      have d3 : decide ((L : Int) < 0) = false := by simp
      have hL : L < M63 := by unfold M63; omega
      have hwL : IntKind.u64.wrap (L : Int) = (L : Int) := by simp [IntKind.wrap, IntKind.bits, IntKind.signed]; omega
      have HR2 := Lib.hid (HR.out.trans (if_neg hp))
      clear hp HR hpi
      have HV := Lib.hid hv; have HWF := Lib.hid hV; have HT := Lib.hid ht
      have HTB := Lib.hid (table_any V hV Y hY b off cap w hv)
      have HNN := Lib.hid (atF_none hV Y t L ht hL)
      have hn6 := hV.le
      clear hv hV ht
      go_enter Tryd.func42, Tryd.ntmps42
      go_wp2_with fail
      refine HS.out.mono ?_
      rintro e w1 ⟨rfl, rfl⟩
      go_wp2_with fail
      refine HTB.out.mono ?_
      rintro e w2 ⟨⟨tb, tc, rfl, htab⟩, hc2⟩
      have HTAB := Lib.hid htab; have HC2 := Lib.hid hc2
      obtain ⟨g0, c0, t1, t2⟩ := htab Y (Nat.le_refl _)
      rw [Nat.zero_add] at t1
      have HLG := Lib.hid (long_any t (tab V Y) V.length (by omega) HT.out (tab_len V Y) (tab_le V Y) (by omega) g0 c0 w2 t2)
      have hYY : (Y : Int) < ((Y + 1 : Nat) : Int) := by omega
      obtain ⟨Y1, hY1⟩ : ∃ Y1, Y + 1 = Y1 := ⟨_, rfl⟩
      rw [hY1] at hYY ⊢
      clear htab hc2 t2 hY1
      obtain ⟨S, hS⟩ : ∃ S, lngV t (tab V Y) = S := ⟨_, rfl⟩
      rw [hS] at HLG HNN
      clear hS
      by_cases hSL : S ≤ L
      · have d4 : decide (S ≤ L) = true := by simp; omega
        have HAN := Lib.hid (HNN.out.2 hSL)
        go_wp2_with fail
        refine HLG.out.mono ?_
        rintro e w3 ⟨rfl, rfl⟩
        go_wp2_with fail
        go_ret2
        refine ⟨?_, HC2.out⟩
        rw [HR2.out, show (Y : Int).toNat = Y from rfl, show (L : Int).toNat = L from rfl, HAN.out]
        rfl
      · have d4 : decide (S ≤ L) = false := by simp; omega
        have hAS : atF V Y t L ≠ none := fun e => hSL (HNN.out.1 e)
        obtain ⟨r, hr⟩ := Option.ne_none_iff_exists'.1 hAS
        have HRR := Lib.hid hr
        clear hAS hr hSL HNN
        go_wp2_with fail
        refine HLG.out.mono ?_
        rintro e w3 ⟨rfl, rfl⟩
        go_wp2_with fail
        clear d4 HLG t1
        go_loopg [13, 1, 12] Y (fun gm yv sv lv wr => ∃ (y : Nat) (s : List Nat) (l q : Nat), y ≤ Y ∧ y = gm ∧ yv = .int .i64 y ∧ sv = .string (str s) ∧ lv = .int .u64 (l : Int) ∧ (∀ c ∈ s, c < V.length) ∧ s.length ≤ 30 ∧ l < M63 ∧ atF V y s l = some r ∧ wr = w3.drewN q)
        case atStart => exact ⟨Y, t, L, 0, Nat.le_refl _, rfl, rfl, rfl, rfl, HT.out, hl, hL, HRR.out, rfl⟩
        case round =>
          obtain ⟨y, s, l, q, hyY, rfl, rfl, rfl, rfl, hs, hsl, hlm, ha, rfl⟩ := hrel
          have HSL := Lib.hid hs; have HA := Lib.hid ha
          clear hs ha
          have HFS : Hid (∃ d, fnd s (tab V y) l = some d) := Lib.hid (by
            have h := HA.out
            cases hf : fnd s (tab V y) l with
            | none => cases y <;> (rw [atF, hf] at h; cases h)
            | some d => exact ⟨d, rfl⟩)
          obtain ⟨⟨d, m⟩, hf⟩ := HFS.out
          have HF := Lib.hid hf
          obtain ⟨g1, c1, u1, u2⟩ := HTAB.out y hyY
          rw [Nat.zero_add] at u1
          have HU2 := Lib.hid u2; have HU1 := Lib.hid u1
          have hyi : (y : Int) < (Y1 : Int) := by omega
          have hsz := str_size s
          have HTL := Lib.hid (tab_len V y)
          clear hf u2 u1 HFS
          go_wp2_with fail
          obtain ⟨wy, hwy⟩ : ∃ wy : World, wy = w3.drewN q := ⟨_, rfl⟩
          have HWY := Lib.hid hwy
          have HCY := Lib.hid (show Chg (fun _ => False) w1 wy by rw [hwy]; exact HC2.out.drewN q)
          rw [← hwy]
          clear hwy
          go_loopg [14, 12] s.length (fun gm iv lv wr => ∃ i l' p : Nat, i ≤ s.length ∧ gm = s.length - i ∧ iv = .int .i64 i ∧ lv = .int .u64 (l' : Int) ∧ l' < M63 ∧ fnd (s.drop i) (tab V y) l' = some (d, m) ∧ wr = wy.drewN p)
          case atStart => exact ⟨0, l, 0, by omega, by omega, rfl, rfl, hlm, HF.out, rfl⟩
          case round =>
            obtain ⟨i, l', p, hi, rfl, rfl, rfl, hlm', hff, rfl⟩ := hrel
            have hil := fnd_lt hff
            rw [fnd_drop hil] at hff
            have HFF := Lib.hid hff
            clear hff
            have hcn := HSL.out _ (List.getElem_mem hil)
            have hidx := index_chr hil (by omega)
            have hu8 := u8_chr s[i] (by omega)
            have HON := Lib.hid (str_one hil)
            have u1 := HU1.out
            have u3 := HU2.out s[i] (by rw [HTL.out]; exact hcn)
            obtain ⟨c, hc⟩ : ∃ c, s[i] = c := ⟨_, rfl⟩
            rw [hc] at hcn hu8 u3 HFF HON
            simp only [hc] at hidx
            obtain ⟨C, hC⟩ : ∃ C, 97 + c = C := ⟨_, rfl⟩
            rw [hC] at hu8
            simp only [hC] at hidx
            obtain ⟨x, hx⟩ : ∃ x, at0 (tab V y) c = x := ⟨_, rfl⟩
            rw [hx] at u3 HFF
            clear hc hC hx
            have hci : (c : Int) < (V.length : Int) := by omega
            have hwc : IntKind.i64.wrap (c : Int) = (c : Int) := IntWalk.i64_in _ (by omega)
            have u1' : wy.cell? ⟨tb, y, none⟩ = some (.slice (some ⟨g1, 0, none⟩) V.length c1) := by rw [HWY.out]; exact u1
            have u3' : wy.cell? ⟨g1, c, none⟩ = some (.int .u64 (x : Int)) := by rw [HWY.out]; exact u3
            clear u1 u3
            by_cases hxl : x ≤ l'
            · have d5 : decide (x ≤ l') = true := by simpa using hxl
              rw [if_pos hxl] at HFF
              have hwx : IntKind.u64.wrap ((l' : Int) - (x : Int)) = (l' : Int) - (x : Int) := by unfold M63 at hlm'; simp [IntKind.wrap, IntKind.bits, IntKind.signed]; omega
              go_wp2_with fail
              go_quiet (fail)
              go_wp2_with fail
              go_quiet (fail)
              go_wp2_with fail
              go_roundg (s.length - (i + 1))
              case measure => omega
              case rel => exact ⟨i + 1, l' - x, _, by omega, rfl, by go_num, by congr 1; omega, by omega, HFF.out, rfl⟩
            · have d5 : decide (x ≤ l') = false := by simpa using hxl
              rw [if_neg hxl] at HFF
              obtain ⟨rfl, rfl⟩ : c = d ∧ l' = m := by have h := HFF.out; injection h with h; injection h with h1 h2; exact ⟨h1, h2⟩
              cases y with
              | zero =>
                have HRC : Hid (r = c) := Lib.hid (by
                  have h := HA.out
                  rw [atF, HF.out] at h
                  simpa using h.symm)
                go_wp2_with fail
                go_quiet (fail)
                go_wp2_with fail
                go_ret2
                refine ⟨?_, HCY.out.drewN _⟩
                rw [HR2.out, show (Y : Int).toNat = Y from rfl, show (L : Int).toNat = L from rfl, HRR.out, HRC.out]
                show _ = Ending.returned (.tuple #[.string (str [c]), .int .i64 0])
                rw [← HON.out]
                rfl
              | succ y =>
                have v1 := (HV.out.chg HC2.out (fun x => x)) c hcn
                rw [← part_lt hcn] at v1
                have v1' : wy.cell? ⟨b, off + c, none⟩ = some (.string (str (part V c))) := by rw [HWY.out]; exact v1
                have HNA : Hid (atF V y (part V c) l' = some r) := Lib.hid (by
                  have h := HA.out
                  rw [atF, HF.out] at h
                  exact h)
                have HPS := Lib.hid (HWF.out.part_le c)
                obtain ⟨ps, hps⟩ : ∃ ps, part V c = ps := ⟨_, rfl⟩
                rw [hps] at v1' HNA HPS
                clear v1 hps
                obtain ⟨z, hz⟩ : ∃ z, y + 1 = z := ⟨_, rfl⟩
                have HZ := Lib.hid hz
                have hz0 : ¬ (z : Int) = 0 := by omega
                have hz1 : (z : Int) - 1 = (y : Int) := by omega
                rw [hz] at u1' hyi hyY ⊢
                clear hz
                go_wp2_with fail
                go_quiet (fail)
                go_wp2_with fail
                go_roundg y
                case measure => omega
                case rel => exact ⟨y, ps, l', q + (p + nq), by have := HZ.out; omega, rfl, rfl, rfl, rfl, HPS.out.2, by have := HPS.out.1; omega, hlm', HNA.out, by rw [HWY.out]; simp⟩
  · have HR := Lib.hid (show atOk V t years place = .tuple #[.string ⟨#[]⟩, .int .i64 3] from if_pos hy)
    by_cases hy0 : years < 0
    · have d1 : decide (years < 0) = true := by simpa using hy0
      clear hy hy0
      go_enter Tryd.func42, Tryd.ntmps42
      go_wp2_with fail
      refine HS.out.mono ?_
      rintro e w1 ⟨rfl, rfl⟩
      go_wp2_with fail
      go_ret2
      exact ⟨by rw [HR.out]; rfl, Chg.refl _ _⟩
    · have d1 : decide (years < 0) = false := by simpa using hy0
      have d2 : decide (1000 < years) = true := by simp; omega
      clear hy hy0
      go_enter Tryd.func42, Tryd.ntmps42
      go_wp2_with fail
      refine HS.out.mono ?_
      rintro e w1 ⟨rfl, rfl⟩
      go_wp2_with fail
      go_ret2
      exact ⟨by rw [HR.out]; rfl, Chg.refl _ _⟩
end Go.Proofs.YtilacamhjibneaaDoor
