/- Factors, walked. Its conditions are its premises. -/
import Derived.Test.YtilacamhjibneaaDoorV27
set_option linter.unusedVariables false
namespace Go.Proofs.YtilacamhjibneaaDoor
open Go.RowKit Go.Maps

theorem U8At.chg {S : Nat → Prop} {w w' : World} {b off : Nat} {l : List Nat} (h : U8At w b off l) (hc : Chg S w w') (hn : ¬ S b) : U8At w' b off l := fun k hk => hc.cell_some (h k hk) hn
def facV (l : List Nat) (len : Nat) : Nat := (dis (win l len (l.length + 1 - len))).length

set_option maxRecDepth 100000 in
set_option maxHeartbeats 1000000 in
theorem factors_ok (V : List (List Nat)) (hV : WF V) (i : Nat) (hi : i < V.length) (hbud : budV V i = true) (hfed : Fed V i 100000) (len : Nat) (hl1 : 1 ≤ len) (hl10 : len ≤ 10) (b off cap : Nat) (w : World) (hv : VAt w b off V) :
    Calls Tryd.prog 17 #[.slice (some ⟨b, off, none⟩) V.length cap, .string (str [i]), .int .i64 (len : Int)] w fun e w' => (∃ K, e = .returned (.tuple #[.int .i64 (facV ((bg V i K).take 100000) len : Int), .int .i64 0]) ∧ 100000 ≤ (bg V i K).length) ∧ Chg (fun _ => False) w w' := by
  have hn6 := hV.le
  have hmm := @run_makeMap Tryd.prog
  have HF := Lib.hid (first_ok V hV i hi hbud 100000 (Nat.le_refl _) hfed b off cap w hv)
  have HBL := Lib.hid (bg_lt hV i)
  obtain ⟨bs, hbs⟩ : ∃ bs, str [i] = bs := ⟨_, rfl⟩
  rw [hbs] at HF ⊢
  clear hv hV hbs hbud hfed
  go_enter Tryd.func17, Tryd.ntmps17
  go_wp2_with fail
  refine HF.out.mono ?_
  rintro e w1 ⟨⟨g, c, K, rfl, hcap, hK, hu⟩, hc1⟩
  obtain ⟨l, hl⟩ : ∃ l, (bg V i K).take 100000 = l := ⟨_, rfl⟩
  rw [hl] at hu
  have hlen : l.length = 100000 := by rw [← hl, List.length_take]; omega
  have HLT : Hid (∀ c ∈ l, c < 100) := Lib.hid (fun c hc => by have := HBL.out K c (by rw [← hl] at hc; exact List.mem_of_mem_take hc); omega)
  have HL := Lib.hid hl; have HLEN := Lib.hid hlen; have HKK := Lib.hid hK
  have HU0 := Lib.hid (hu.chg ((Chg.refl (fun _ => False) w1).alloc (.map #[] 0)) (fun x => x)); have HC0 := Lib.hid (hc1.trans ((Chg.refl (fun _ => False) w1).alloc (.map #[] 0)) (fun _ x => x.elim))
  obtain ⟨mb, hmb⟩ : ∃ mb, w1.heap.size = mb := ⟨_, rfl⟩
  have HGM := Lib.hid (show g < mb by
    have := World.cell_lt (hu 0 (by omega))
    rw [← hmb]
    exact this)
  have HMW := Lib.hid (show w.heap.size ≤ mb by rw [← hmb]; exact hc1.size)
  have HS0 : Hid (SeenS (w1.alloc (.map #[] 0)) mb (win l len 0)) := Lib.hid (by
    have := World.ownsMap_made (H := Unit) w1 Tryd.prog 9 (plainElem Tryd.prog 4)
    rw [hmb] at this
    exact this)
  clear hu hc1 hl hlen hK
  have d1 : decide ((len : Int) < 1) = false := by simp; omega
  have d2 : decide ((10 : Int) < (len : Int)) = false := by simp; omega
  go_wp2_with fail
  clear hmm hmb d1 d2
  generalize w1.alloc (.map #[] 0) = W0 at HU0 HC0 HS0 ⊢
  go_loopg [11] 100001 (fun gm jv wr => ∃ j : Nat, j + len ≤ 100001 ∧ gm = 100001 - j ∧ jv = .int .i64 j ∧ U8At wr g 0 l ∧ SeenS wr mb (win l len j) ∧ Chg (fun _ => False) w wr)
  case atStart => exact ⟨0, by omega, rfl, rfl, HU0.out, HS0.out, HC0.out⟩
  case round =>
    clear HU0 HS0 HC0
    obtain ⟨j, hj, rfl, rfl, hu, hs, hc⟩ := hrel
    have HU := Lib.hid hu; have HS := Lib.hid hs; have HC := Lib.hid hc
    clear hu hs hc
    by_cases hjl : j + len ≤ 100000
    · have d1 : decide ((j : Int) + (len : Int) ≤ 100000) = true := by simp; omega
      have hcv := fun cap' => back_str (cap := cap') (i := j) (len := len) HU.out (by rw [HLEN.out]; exact hjl) HLT.out
      have HWN := Lib.hid (win_next l len j)
      have HXL := Lib.hid (show ((l.drop j).take len).length ≤ 1000 by rw [List.length_take]; omega)
      have HWL := Lib.hid (show (win l len j).length < 1000000 by rw [win_len]; omega)
      obtain ⟨x, hx⟩ : ∃ x, (l.drop j).take len = x := ⟨_, rfl⟩
      simp only [hx] at hcv
      rw [hx] at HWN HXL
      clear hx
      obtain ⟨w6, hput, hs6, hc6⟩ := HS.out.put HWL.out HXL.out
      have HS6 := Lib.hid hs6
      have HU6 := Lib.hid (HU.out.chg hc6 (show ¬ g = mb by have := HGM.out; omega))
      have HC6 := Lib.hid (HC.out.trans hc6 (fun k hk => .inr (by rw [hk]; exact HMW.out)))
      clear hs6 hc6
      go_wp2_with fail
      go_roundg (100001 - (j + 1))
      case measure => omega
      case rel => exact ⟨j + 1, by omega, rfl, by go_num, HU6.out, by rw [HWN.out]; exact HS6.out, HC6.out⟩
    · have hje : j = l.length + 1 - len := by have := HLEN.out; omega
      have d1 : decide ((j : Int) + (len : Int) ≤ 100000) = false := by simp; omega
      have HSZ := Lib.hid (setW_inv _ _ rfl (win_lets HLT.out len j)).2.1
      have HJE := Lib.hid hje
      clear hje
      go_wp2_with (at_len; refine wpList_len_own _ rfl _ 57 rfl 9 4 Tryd.underlying57 _ mb _ _ rfl HS.out ?_)
      rw [HSZ.out]
      go_wp2_with fail
      go_ret2
      refine ⟨⟨K, ?_, HKK.out⟩, HC.out⟩
      rw [HL.out]
      unfold facV
      rw [← HJE.out]
      rfl
end Go.Proofs.YtilacamhjibneaaDoor
