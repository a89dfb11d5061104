/- Which parts live, walked. Its conditions are its premises. -/
import Derived.Test.YtilacamhjibneaaDoorV6
set_option linter.unusedVariables false
namespace Go.Proofs.YtilacamhjibneaaDoor
open Go.RowKit

theorem fill_step (n i : Nat) (hi : i < n) : (List.replicate i true ++ List.replicate (n - i) false).set i true = List.replicate (i + 1) true ++ List.replicate (n - (i + 1)) false := by
  apply List.ext_getElem?
  intro j
  rw [List.getElem?_set]
  by_cases hij : i = j
  · subst hij
    rw [if_pos rfl, if_pos (by simp; omega), List.getElem?_append_left (by simp), List.getElem?_replicate, if_pos (by omega)]
  · rw [if_neg hij]
    by_cases hj : j < i
    · rw [List.getElem?_append_left (by simpa using hj), List.getElem?_append_left (by simp; omega), List.getElem?_replicate, List.getElem?_replicate, if_pos hj, if_pos (by omega)]
    · rw [List.getElem?_append_right (by simp; omega), List.getElem?_append_right (by simp; omega), List.getElem?_replicate, List.getElem?_replicate]
      simp only [List.length_replicate]
      by_cases hn : j < n
      · rw [if_pos (by omega), if_pos (by omega)]
      · rw [if_neg (by omega), if_neg (by omega)]

set_option maxRecDepth 100000 in
set_option maxHeartbeats 1000000 in
theorem living_any (V : List (List Nat)) (hV : WF V) (years : Nat) (hy : years ≤ 1000) (b off cap : Nat) (w : World) (hv : VAt w b off V) :
    Calls Tryd.prog 69 #[.slice (some ⟨b, off, none⟩) V.length cap, .int .i64 (years : Int)] w fun e w' =>
      (∃ g, e = .returned (.slice (some ⟨g, 0, none⟩) V.length V.length) ∧ w.heap.size ≤ g ∧ Blk w' g 4 (bv (livV V years))) ∧ Chg (fun _ => False) w w' := by
  have hn6 := hV.le
  have hmk := make_bools V.length (by omega)
  have HV := Lib.hid hv; have HWF := Lib.hid hV
  have HB0 := Lib.hid (made_bools V.length w); have HC0 := Lib.hid ((Chg.refl (fun _ => False) w).alloc (.cells (Array.replicate V.length (.bool false)) 4))
  obtain ⟨B, hB⟩ : ∃ B, w.heap.size = B := ⟨_, rfl⟩
  have HB := Lib.hid hB
  rw [hB] at HB0
  clear hv hV
  go_enter Tryd.func69, Tryd.ntmps69
  go_wp2_with fail
  clear hB
  generalize w.alloc (.cells (Array.replicate V.length (.bool false)) 4) = W0 at HB0 HC0 ⊢
  go_loopg [16] V.length (fun gm iv wr => ∃ i : Nat, i ≤ V.length ∧ gm = V.length - i ∧ iv = .int .i64 i ∧ Blk wr B 4 (bv (List.replicate i true ++ List.replicate (V.length - i) false)) ∧ Chg (fun _ => False) w wr)
  case atStart => exact ⟨0, by omega, by omega, rfl, HB0.out, HC0.out⟩
  case round =>
    clear HB0 HC0
    obtain ⟨i, hi, rfl, rfl, hblk, hchg⟩ := hrel
    have HBK := Lib.hid hblk; have HC := Lib.hid hchg
    clear hblk hchg
    by_cases hlt : i < V.length
    · have d0 : decide (i < V.length) = true := by simpa using hlt
      have k1 := HBK.out.cell_some (bv_at (i := i) (by simp; omega))
      have f1 := HBK.out.free i
      have HS := Lib.hid (fill_step V.length i hlt)
      go_wp2_with fail
      go_roundg (V.length - (i + 1))
      case measure => omega
      case rel =>
        refine ⟨i + 1, by omega, rfl, by go_num, ?_, HC.out.setCell (.inr (by rw [HB.out]; exact Nat.le_refl _)) _⟩
        rw [← HS.out, bv_set]
        exact HBK.out.set i _
    · obtain rfl : i = V.length := by omega
      have HB1 : Hid (Blk wr B 4 (bv (livF V 0))) := Lib.hid (by have h := HBK.out; simpa [livF] using h)
      clear HBK
      have hsB : B < wr.heap.size := HB1.out.lt
      have HBB := Lib.hid (show B ≤ B from Nat.le_refl _)
      clear hsB
      by_cases hyl : V.length < years
      · have HM := Lib.hid (show min years V.length = V.length by omega)
        go_wp2_with fail
        go_loopg [27, 5] V.length (fun gm iv tv wr => ∃ y g : Nat, y ≤ V.length ∧ gm = V.length - y ∧ iv = .int .i64 y ∧ tv = .slice (some ⟨g, 0, none⟩) V.length V.length ∧ B ≤ g ∧ Blk wr g 4 (bv (livF V y)) ∧ Chg (fun _ => False) w wr)
        case atStart => exact ⟨0, B, by omega, by omega, rfl, rfl, HBB.out, HB1.out, HC.out⟩
        case round =>
          clear HB1 HC
          obtain ⟨y, g, hy, rfl, rfl, rfl, hgg, hblk, hchg⟩ := hrel
          have HBK := Lib.hid hblk; have HC := Lib.hid hchg; have HGG := Lib.hid hgg
          clear hblk hchg hgg
          by_cases hyM : y < V.length
          · have d1 : decide (y < V.length) = true := by simpa using hyM
            have HL := Lib.hid (livF_len V y)
            have HLS := Lib.hid (show livF V (y + 1) = lvF V (livF V y) V.length from rfl)
            obtain ⟨L, hL⟩ : ∃ L, livF V y = L := ⟨_, rfl⟩
            rw [hL] at HBK HL HLS
            clear hL
            have HB2 := Lib.hid (made_bools V.length wr); have HC2 := Lib.hid (HC.out.alloc (.cells (Array.replicate V.length (.bool false)) 4))
            have HBK2 := Lib.hid (HBK.out.alloc (.cells (Array.replicate V.length (.bool false)) 4))
            have hgl : g < wr.heap.size := HBK.out.lt
            obtain ⟨B2, hB2⟩ : ∃ B2, wr.heap.size = B2 := ⟨_, rfl⟩
            rw [hB2] at HB2 hgl
            have HB2S := Lib.hid (show w.heap.size ≤ B2 by have := HC.out.size; omega)
            have HB2G := Lib.hid (show B ≤ B2 by have := HGG.out; omega)
            have HNE := Lib.hid (show g ≠ B2 by omega)
            go_wp2_with fail
            clear hB2 hgl HBK HC
            generalize wr.alloc (.cells (Array.replicate V.length (.bool false)) 4) = W2 at HB2 HC2 HBK2 ⊢
            go_loopg [34] V.length (fun gm iv wr => ∃ i : Nat, i ≤ V.length ∧ gm = V.length - i ∧ iv = .int .i64 i ∧ Blk wr B2 4 (bv (lvF V L i)) ∧ Blk wr g 4 (bv L) ∧ Chg (fun _ => False) w wr)
            case atStart => exact ⟨0, by omega, by omega, rfl, HB2.out, HBK2.out, HC2.out⟩
            case round =>
              clear HB2 HC2 HBK2
              obtain ⟨i, hi, rfl, rfl, hblk, hblg, hchg⟩ := hrel
              have HB2 := Lib.hid hblk; have HBG := Lib.hid hblg; have HC := Lib.hid hchg
              clear hblk hblg hchg
              by_cases hlt : i < V.length
              · have d2 : decide (i < V.length) = true := by simpa using hlt
                have c0 := (HV.out.chg HC.out (fun x => x)) i hlt
                rw [← part_lt hlt] at c0
                have hp8 := (HWF.out.part_le i).1
                have HP := Lib.hid (HWF.out.part_le i).2
                have HS := Lib.hid (show lvF V L (i + 1) = lvP (part V i) L i (lvF V L i) (part V i).length from rfl)
                have HOL := Lib.hid (lvF_len V L i)
                obtain ⟨p, hp⟩ : ∃ p, part V i = p := ⟨_, rfl⟩
                obtain ⟨o, ho⟩ : ∃ o, lvF V L i = o := ⟨_, rfl⟩
                rw [hp] at c0 hp8 HP HS
                rw [ho] at HS HOL HB2
                clear hp ho
                have hsz := str_size p
                go_wp2_with fail
                clear c0
                go_loopg [41] p.length (fun gm kv wr => ∃ k : Nat, k ≤ p.length ∧ gm = p.length - k ∧ kv = .int .i64 k ∧ Blk wr B2 4 (bv (lvP p L i o k)) ∧ Blk wr g 4 (bv L) ∧ Chg (fun _ => False) w wr)
                case atStart => exact ⟨0, by omega, by omega, rfl, HB2.out, HBG.out, HC.out⟩
                case round =>
                  clear HB2 HBG HC
                  obtain ⟨k, hk, rfl, rfl, hblk, hblg, hchg⟩ := hrel
                  have HB2 := Lib.hid hblk; have HBG := Lib.hid hblg; have HC := Lib.hid hchg
                  clear hblk hblg hchg
                  by_cases hkl : k < p.length
                  · have d3 : decide (k < p.length) = true := by simpa using hkl
                    have hcn := HP.out _ (List.getElem_mem hkl)
                    have hidx := index_chr hkl (by omega)
                    have hu8 := u8_chr p[k] (by omega)
                    have HSK : Hid (lvP p L i o (k + 1) = (lvP p L i o k).set i (atB (lvP p L i o k) i || atB L p[k])) := Lib.hid (by rw [lvP, at0_lt_of hkl])
                    have k1 := HB2.out.cell_some (bv_at (i := i) (by rw [lvP_len, HOL.out]; omega))
                    have f1 := HB2.out.free i
                    have k2 := HBG.out.cell_some (bv_at (i := p[k]) (by rw [HL.out]; omega))
                    obtain ⟨c, hc⟩ : ∃ c, p[k] = c := ⟨_, rfl⟩
                    rw [hc] at hcn hu8 HSK k2
                    simp only [hc] at hidx
                    obtain ⟨C, hC⟩ : ∃ C, 97 + c = C := ⟨_, rfl⟩
                    rw [hC] at hu8
                    simp only [hC] at hidx
                    obtain ⟨x, hx⟩ : ∃ x, atB (lvP p L i o k) i = x := ⟨_, rfl⟩
                    obtain ⟨z, hz⟩ : ∃ z, atB L c = z := ⟨_, rfl⟩
                    rw [hx] at HSK k1
                    rw [hz] at HSK k2
                    clear hc hC hx hz
                    have hci : (c : Int) < (V.length : Int) := by omega
                    cases x <;> cases z
                    all_goals
                      go_wp2_with fail
                      go_roundg (p.length - (k + 1))
                      case measure => omega
                      case rel =>
                        refine ⟨k + 1, by omega, rfl, by go_num, ?_, HBG.out.setOther (a := ⟨B2, i, none⟩) (fun h => HNE.out h.symm) _, HC.out.setCell (.inr HB2S.out) _⟩
                        rw [HSK.out, bv_set]
                        exact HB2.out.set i _
                  · obtain rfl : k = p.length := by omega
                    go_wp2_with fail
                    go_roundg (V.length - (i + 1))
                    case measure => omega
                    case rel => exact ⟨i + 1, by omega, rfl, by go_num, by rw [HS.out]; exact HB2.out, HBG.out, HC.out⟩
              · obtain rfl : i = V.length := by omega
                go_wp2_with fail
                go_roundg (V.length - (y + 1))
                case measure => omega
                case rel => exact ⟨y + 1, B2, by omega, rfl, by go_num, rfl, HB2G.out, by rw [HLS.out]; exact HB2.out, HC.out⟩
          · obtain rfl : y = V.length := by omega
            go_wp2_with fail
            go_ret
            exact ⟨⟨g, rfl, by rw [HB.out]; exact HGG.out, by unfold livV; rw [HM.out]; exact HBK.out⟩, HC.out⟩
      · have HM := Lib.hid (show min years V.length = years by omega)
        go_wp2_with fail
        go_loopg [27, 5] years (fun gm iv tv wr => ∃ y g : Nat, y ≤ years ∧ gm = years - y ∧ iv = .int .i64 y ∧ tv = .slice (some ⟨g, 0, none⟩) V.length V.length ∧ B ≤ g ∧ Blk wr g 4 (bv (livF V y)) ∧ Chg (fun _ => False) w wr)
        case atStart => exact ⟨0, B, by omega, by omega, rfl, rfl, HBB.out, HB1.out, HC.out⟩
        case round =>
          clear HB1 HC
          obtain ⟨y, g, hy, rfl, rfl, rfl, hgg, hblk, hchg⟩ := hrel
          have HBK := Lib.hid hblk; have HC := Lib.hid hchg; have HGG := Lib.hid hgg
          clear hblk hchg hgg
          by_cases hyM : y < years
          · have d1 : decide (y < years) = true := by simpa using hyM
            have HL := Lib.hid (livF_len V y)
            have HLS := Lib.hid (show livF V (y + 1) = lvF V (livF V y) V.length from rfl)
            obtain ⟨L, hL⟩ : ∃ L, livF V y = L := ⟨_, rfl⟩
            rw [hL] at HBK HL HLS
            clear hL
            have HB2 := Lib.hid (made_bools V.length wr); have HC2 := Lib.hid (HC.out.alloc (.cells (Array.replicate V.length (.bool false)) 4))
            have HBK2 := Lib.hid (HBK.out.alloc (.cells (Array.replicate V.length (.bool false)) 4))
            have hgl : g < wr.heap.size := HBK.out.lt
            obtain ⟨B2, hB2⟩ : ∃ B2, wr.heap.size = B2 := ⟨_, rfl⟩
            rw [hB2] at HB2 hgl
            have HB2S := Lib.hid (show w.heap.size ≤ B2 by have := HC.out.size; omega)
            have HB2G := Lib.hid (show B ≤ B2 by have := HGG.out; omega)
            have HNE := Lib.hid (show g ≠ B2 by omega)
            go_wp2_with fail
            clear hB2 hgl HBK HC
            generalize wr.alloc (.cells (Array.replicate V.length (.bool false)) 4) = W2 at HB2 HC2 HBK2 ⊢
            go_loopg [34] V.length (fun gm iv wr => ∃ i : Nat, i ≤ V.length ∧ gm = V.length - i ∧ iv = .int .i64 i ∧ Blk wr B2 4 (bv (lvF V L i)) ∧ Blk wr g 4 (bv L) ∧ Chg (fun _ => False) w wr)
            case atStart => exact ⟨0, by omega, by omega, rfl, HB2.out, HBK2.out, HC2.out⟩
            case round =>
              clear HB2 HC2 HBK2
              obtain ⟨i, hi, rfl, rfl, hblk, hblg, hchg⟩ := hrel
              have HB2 := Lib.hid hblk; have HBG := Lib.hid hblg; have HC := Lib.hid hchg
              clear hblk hblg hchg
              by_cases hlt : i < V.length
              · have d2 : decide (i < V.length) = true := by simpa using hlt
                have c0 := (HV.out.chg HC.out (fun x => x)) i hlt
                rw [← part_lt hlt] at c0
                have hp8 := (HWF.out.part_le i).1
                have HP := Lib.hid (HWF.out.part_le i).2
                have HS := Lib.hid (show lvF V L (i + 1) = lvP (part V i) L i (lvF V L i) (part V i).length from rfl)
                have HOL := Lib.hid (lvF_len V L i)
                obtain ⟨p, hp⟩ : ∃ p, part V i = p := ⟨_, rfl⟩
                obtain ⟨o, ho⟩ : ∃ o, lvF V L i = o := ⟨_, rfl⟩
                rw [hp] at c0 hp8 HP HS
                rw [ho] at HS HOL HB2
                clear hp ho
                have hsz := str_size p
                go_wp2_with fail
                clear c0
                go_loopg [41] p.length (fun gm kv wr => ∃ k : Nat, k ≤ p.length ∧ gm = p.length - k ∧ kv = .int .i64 k ∧ Blk wr B2 4 (bv (lvP p L i o k)) ∧ Blk wr g 4 (bv L) ∧ Chg (fun _ => False) w wr)
                case atStart => exact ⟨0, by omega, by omega, rfl, HB2.out, HBG.out, HC.out⟩
                case round =>
                  clear HB2 HBG HC
                  obtain ⟨k, hk, rfl, rfl, hblk, hblg, hchg⟩ := hrel
                  have HB2 := Lib.hid hblk; have HBG := Lib.hid hblg; have HC := Lib.hid hchg
                  clear hblk hblg hchg
                  by_cases hkl : k < p.length
                  · have d3 : decide (k < p.length) = true := by simpa using hkl
                    have hcn := HP.out _ (List.getElem_mem hkl)
                    have hidx := index_chr hkl (by omega)
                    have hu8 := u8_chr p[k] (by omega)
                    have HSK : Hid (lvP p L i o (k + 1) = (lvP p L i o k).set i (atB (lvP p L i o k) i || atB L p[k])) := Lib.hid (by rw [lvP, at0_lt_of hkl])
                    have k1 := HB2.out.cell_some (bv_at (i := i) (by rw [lvP_len, HOL.out]; omega))
                    have f1 := HB2.out.free i
                    have k2 := HBG.out.cell_some (bv_at (i := p[k]) (by rw [HL.out]; omega))
                    obtain ⟨c, hc⟩ : ∃ c, p[k] = c := ⟨_, rfl⟩
                    rw [hc] at hcn hu8 HSK k2
                    simp only [hc] at hidx
                    obtain ⟨C, hC⟩ : ∃ C, 97 + c = C := ⟨_, rfl⟩
                    rw [hC] at hu8
                    simp only [hC] at hidx
                    obtain ⟨x, hx⟩ : ∃ x, atB (lvP p L i o k) i = x := ⟨_, rfl⟩
                    obtain ⟨z, hz⟩ : ∃ z, atB L c = z := ⟨_, rfl⟩
                    rw [hx] at HSK k1
                    rw [hz] at HSK k2
                    clear hc hC hx hz
                    have hci : (c : Int) < (V.length : Int) := by omega
                    cases x <;> cases z
                    all_goals
                      go_wp2_with fail
                      go_roundg (p.length - (k + 1))
                      case measure => omega
                      case rel =>
                        refine ⟨k + 1, by omega, rfl, by go_num, ?_, HBG.out.setOther (a := ⟨B2, i, none⟩) (fun h => HNE.out h.symm) _, HC.out.setCell (.inr HB2S.out) _⟩
                        rw [HSK.out, bv_set]
                        exact HB2.out.set i _
                  · obtain rfl : k = p.length := by omega
                    go_wp2_with fail
                    go_roundg (V.length - (i + 1))
                    case measure => omega
                    case rel => exact ⟨i + 1, by omega, rfl, by go_num, by rw [HS.out]; exact HB2.out, HBG.out, HC.out⟩
              · obtain rfl : i = V.length := by omega
                go_wp2_with fail
                go_roundg (years - (y + 1))
                case measure => omega
                case rel => exact ⟨y + 1, B2, by omega, rfl, by go_num, rfl, HB2G.out, by rw [HLS.out]; exact HB2.out, HC.out⟩
          · obtain rfl : y = years := by omega
            go_wp2_with fail
            go_ret
            exact ⟨⟨g, rfl, by rw [HB.out]; exact HGG.out, by unfold livV; rw [HM.out]; exact HBK.out⟩, HC.out⟩
end Go.Proofs.YtilacamhjibneaaDoor
