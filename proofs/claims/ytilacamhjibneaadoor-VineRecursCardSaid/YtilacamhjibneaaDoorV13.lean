/- Grow of a vine and a shoot without an error. Its conditions are its premises. -/
import Derived.Test.YtilacamhjibneaaDoorV12
set_option linter.unusedVariables false
namespace Go.Proofs.YtilacamhjibneaaDoor
open Go.RowKit

theorem okT_str {n : Nat} {t : List Nat} (hn : n ≤ 50) (ht : ∀ c ∈ t, c < n) : ∀ k, k ≤ t.length → okT n (str t) k = true
  | 0, _ => rfl
  | k + 1, hk => by
    have hkl : k < t.length := by omega
    have h := ht _ (List.getElem_mem hkl)
    rw [okT, okT_str hn ht k (by omega), str_byte hkl (by omega)]
    unfold okC
    rw [decide_eq_true (by omega), decide_eq_true (by omega)]
    rfl
theorem okS_str {n : Nat} {t : List Nat} (hn : n ≤ 50) (ht : ∀ c ∈ t, c < n) : okS n (str t) = true := by
  unfold okS
  rw [str_size]
  exact okT_str hn ht _ (Nat.le_refl _)
theorem prT_str {V : List (List Nat)} (hV : WF V) : ∀ k, k ≤ V.length → prT (V.map str) k = true
  | 0, _ => rfl
  | k + 1, hk => by
    have hkl : k < V.length := by omega
    rw [prT, prT_str hV k (by omega), List.getElem?_map, List.getElem?_eq_getElem hkl]
    have h := hV.small _ (List.getElem_mem hkl)
    have h6 := hV.le
    show (true && okPart (V.map str).length (str V[k])) = true
    unfold okPart
    rw [List.length_map, okS_str (by omega) h.2, str_size, decide_eq_true h.1]
    rfl
theorem errV_ok {V : List (List Nat)} (hV : WF V) : errV (V.map str) = 0 := by
  have h6 := hV.le
  have h1 := hV.pos
  unfold errV
  rw [if_neg (by rw [List.length_map]; omega), if_pos (by have := prT_str hV V.length (Nat.le_refl _); rw [List.length_map]; exact this)]
theorem errS_ok {V : List (List Nat)} (hV : WF V) {t : List Nat} (ht : ∀ c ∈ t, c < V.length) (hl : t.length ≤ 30) : errS (V.map str) (str t) = 0 := by
  have h6 := hV.le
  unfold errS
  rw [if_neg (by rw [errV_ok hV]; simp), if_pos (by unfold okShoot; rw [List.length_map, okS_str (by omega) ht, str_size, decide_eq_true hl]; rfl)]

theorem strs_of {w : World} {b off : Nat} {V : List (List Nat)} (h : VAt w b off V) : StrsAt w b off (V.map str) := fun k hk => by
  have := h k (by simpa using hk)
  simpa using this
theorem shot_ok (V : List (List Nat)) (hV : WF V) (t : List Nat) (ht : ∀ c ∈ t, c < V.length) (hl : t.length ≤ 30) (b off cap : Nat) (w : World) (hv : VAt w b off V) :
    Calls Tryd.prog 51 #[.slice (some ⟨b, off, none⟩) V.length cap, .string (str t)] w fun e w' => e = .returned (.tuple #[.slice (some ⟨b, off, none⟩) V.length cap, .int .i64 0]) ∧ w' = w := by
  have h6 := hV.le
  have h := shot_any (V.map str) (str t) (some ⟨b, off, none⟩) cap b off w (strs_of hv) (.inr rfl) (by rw [List.length_map]; omega) (by
    intro p hp
    obtain ⟨q, hq, rfl⟩ := List.mem_map.1 hp
    rw [str_size]
    have := (hV.small q hq).1
    omega) (by rw [str_size]; omega)
  rw [List.length_map] at h
  unfold shotV at h
  rw [if_pos (errS_ok hV ht hl), List.length_map] at h
  exact h
theorem of_ok (V : List (List Nat)) (hV : WF V) (b off cap : Nat) (w : World) (hv : VAt w b off V) :
    Calls Tryd.prog 65 #[.slice (some ⟨b, off, none⟩) V.length cap] w fun e w' => e = .returned (.tuple #[.slice (some ⟨b, off, none⟩) V.length cap, .int .i64 0]) ∧ w' = w := by
  have h6 := hV.le
  have h := of_any (V.map str) (some ⟨b, off, none⟩) cap b off w (strs_of hv) (.inr rfl) (by rw [List.length_map]; omega) (by
    intro p hp
    obtain ⟨q, hq, rfl⟩ := List.mem_map.1 hp
    rw [str_size]
    have := (hV.small q hq).1
    omega)
  rw [List.length_map] at h
  unfold ofV at h
  rw [if_pos (errV_ok hV), List.length_map] at h
  exact h

/-- What strings.Map does with the letters that live. -/
def MapsAt (V : List (List Nat)) : Prop := ∀ (k : Nat) (t : List Nat) (fb g cap : Nat) (w : World), (∀ c ∈ t, c < V.length) → t.length ≤ 1000000 →
  w.cell? ⟨fb, 0, none⟩ = some (.slice (some ⟨g, 0, none⟩) V.length cap) → BoolsAt w g 0 (livV V k) →
  Calls Tryd.prog 70 #[.func (.func 71) #[] #[.pointer (some ⟨fb, 0, none⟩)], .string (str t)] w fun e w' => e = .returned (.string (str (t.filter fun c => atB (livV V k) c))) ∧ Below w.heap.size w w'
/-- What Grow computes, with so many years left. -/
def grw (V : List (List Nat)) : Nat → List Nat → List Nat
  | 0, s => s
  | y + 1, s => grw V y (grow1 V (s.filter fun c => atB (livV V (y + 1)) c))
def Fits (V : List (List Nat)) : Nat → List Nat → Prop
  | 0, s => s.length ≤ 1000000
  | y + 1, s => s.length ≤ 1000000 ∧ (s.filter fun c => atB (livV V (y + 1)) c).length ≤ 200000 ∧ Fits V y (grow1 V (s.filter fun c => atB (livV V (y + 1)) c))
def growV (V : List (List Nat)) (t : List Nat) (years : Nat) : Value := if sumV (agedF V t years) ≤ 100000 then .tuple #[.string (str (grw V years t)), .int .i64 0] else .tuple #[.string ⟨#[]⟩, .int .i64 8]

set_option maxRecDepth 100000 in
set_option maxHeartbeats 1000000 in
theorem grow_any (V : List (List Nat)) (hV : WF V) (t : List Nat) (ht : ∀ c ∈ t, c < V.length) (hl : t.length ≤ 30) (years : Nat) (hy : years ≤ 1000) (hm : MapsAt V) (hfit : sumV (agedF V t years) ≤ 100000 → Fits V years t)
    (b off cap : Nat) (w : World) (hv : VAt w b off V) :
    Calls Tryd.prog 30 #[.slice (some ⟨b, off, none⟩) V.length cap, .string (str t), .int .i64 (years : Int)] w fun e w' => e = .returned (growV V t years) ∧ Chg (fun _ => False) w w' := by
  have HS := Lib.hid (shot_ok V hV t ht hl b off cap w hv)
  have HV := Lib.hid hv; have HWF := Lib.hid hV; have HT := Lib.hid ht; have HM := Lib.hid hm; have HFIT := Lib.hid hfit
  have HCN := Lib.hid (counts_any V.length t (some ⟨b, off, none⟩) cap w (by have := hV.le; omega) ht (by omega))
  have HLE := Lib.hid (agedF_le V t (by omega)); have HLN := Lib.hid (agedF_len V t)
  have hdy : decide (0 ≤ (years : Int) ∧ (years : Int) ≤ 1000) = true := by simp; omega
  have HY := Lib.hid (yearly_any (years : Int) w)
  rw [hdy] at HY
  clear hv hV ht hm hfit hdy
  go_enter Tryd.func30, Tryd.ntmps30
  go_wp2_with fail
  refine HS.out.mono ?_
  rintro e w1 ⟨rfl, rfl⟩
  go_wp2_with fail
  refine HY.out.mono ?_
  rintro e w1 ⟨rfl, rfl⟩
  go_wp2_with fail
  refine HCN.out.mono ?_
  rintro e w2 ⟨rfl, hb2, hc2⟩
  have HB2 := Lib.hid hb2; have HC2 := Lib.hid hc2
  obtain ⟨g0, hg0⟩ : ∃ g0, w1.heap.size = g0 := ⟨_, rfl⟩
  rw [hg0] at HB2 ⊢
  clear hb2 hc2 hg0
  go_wp2_with fail
  go_loopg [32, 10] years (fun gm iv tv wr => ∃ k g : Nat, k ≤ years ∧ gm = years - k ∧ iv = .int .i64 k ∧ tv = .slice (some ⟨g, 0, none⟩) V.length V.length ∧ Blk wr g 3 (nv (agedF V t k)) ∧ Chg (fun _ => False) w1 wr)
  case atStart => exact ⟨0, g0, by omega, by omega, rfl, rfl, HB2.out, HC2.out⟩
  case round =>
    clear HB2 HC2
    obtain ⟨k, g, hk, rfl, rfl, rfl, hblk, hchg⟩ := hrel
    have HBK := Lib.hid hblk; have HC := Lib.hid hchg
    clear hblk hchg
    by_cases hlt : k < years
    · have d0 : decide ((k : Int) < (years : Int)) = true := by simp; omega
      have HA := Lib.hid (after_any V HWF.out (agedF V t k) b off cap g 0 V.length wr (HV.out.chg HC.out (fun x => x)) (nats_of_blk HBK.out) (HLN.out k) (HLE.out k))
      go_wp2_with fail
      refine HA.out.mono ?_
      rintro e w3 ⟨rfl, hb3, hc3⟩
      obtain ⟨g3, hg3⟩ : ∃ g3, wr.heap.size = g3 := ⟨_, rfl⟩
      rw [hg3] at hb3 ⊢
      have HB3 := Lib.hid hb3; have HC3 := Lib.hid (HC.out.trans hc3 (fun _ x => x.elim))
      clear hb3 hc3 hg3
      go_wp2_with fail
      go_roundg (years - (k + 1))
      case measure => omega
      case rel => exact ⟨k + 1, g3, by omega, rfl, by go_num, rfl, HB3.out, HC3.out⟩
    · obtain rfl : k = years := by omega
      have HSUM := Lib.hid (sum_any (agedF V t k) g 0 V.length wr (nats_of_blk HBK.out) (HLE.out k) (by rw [HLN.out]; have := HWF.out.le; omega))
      have hsle := sumF_le (agedF V t k) (agedF V t k).length
      rw [HLN.out k] at HSUM
      have HGV := Lib.hid (show growV V t k = if sumV (agedF V t k) ≤ 100000 then .tuple #[.string (str (grw V k t)), .int .i64 0] else .tuple #[.string ⟨#[]⟩, .int .i64 8] from rfl)
      have HF2 := Lib.hid HFIT.out
      obtain ⟨S, hS⟩ : ∃ S, sumV (agedF V t k) = S := ⟨_, rfl⟩
      rw [hS] at HSUM HGV HF2
      clear hS hsle
      go_wp2_with fail
      refine HSUM.out.mono ?_
      rintro e w3 ⟨rfl, rfl⟩
      by_cases hbig : 100000 < S
      · have d1 : decide ((100000 : Int) < (S : Int)) = true := by simp; omega
        have HR := Lib.hid (HGV.out.trans (if_neg (by omega)))
        clear hbig
        go_wp2_with fail
        go_ret2
        exact ⟨by rw [HR.out]; rfl, HC.out⟩
      · have d1 : decide ((100000 : Int) < (S : Int)) = false := by simp; omega
        have HR := Lib.hid (HGV.out.trans (if_pos (by omega)))
        have HFI := Lib.hid (HF2.out (by omega))
        clear hbig
        go_wp2_with fail
        generalize w3 = W3 at HC HSUM HBK ⊢
        go_loopg [12, 11] k (fun gm lv sv wr => ∃ (y : Nat) (s : List Nat), y ≤ k ∧ y = gm ∧ lv = .int .i64 y ∧ sv = .string (str s) ∧ (∀ c ∈ s, c < V.length) ∧ Fits V y s ∧ grw V y s = grw V k t ∧ Chg (fun _ => False) w1 wr)
        case atStart => exact ⟨k, t, Nat.le_refl _, rfl, rfl, rfl, HT.out, HFI.out, rfl, HC.out⟩
        case round =>
          clear HSUM HBK HC
          obtain ⟨y, s, hyk, rfl, rfl, rfl, hs, hf, hg, hchg⟩ := hrel
          have HSL := Lib.hid hs; have HFF := Lib.hid hf; have HGG := Lib.hid hg; have HC := Lib.hid hchg
          clear hs hf hg hchg
          cases y with
          | zero =>
            have d2 : decide ((0 : Int) < ((0 : Nat) : Int)) = false := by simp
            have HSS : Hid (s = grw V k t) := Lib.hid HGG.out
            go_wp2_with fail
            go_ret2
            exact ⟨by rw [HR.out, ← HSS.out]; rfl, HC.out⟩
          | succ y =>
            obtain ⟨Y, hY⟩ : ∃ Y, y + 1 = Y := ⟨_, rfl⟩
            have hY0 : 0 < Y := by omega
            have HYY := Lib.hid hY
            have HFF2 : Hid (s.length ≤ 1000000 ∧ (s.filter fun c => atB (livV V Y) c).length ≤ 200000 ∧ Fits V y (grow1 V (s.filter fun c => atB (livV V Y) c))) := Lib.hid (by rw [← hY]; exact HFF.out)
            have HGG2 : Hid (grw V y (grow1 V (s.filter fun c => atB (livV V Y) c)) = grw V k t) := Lib.hid (by rw [← hY]; exact HGG.out)
            rw [hY] at hyk ⊢
            clear hY HFF HGG
            have HLV := Lib.hid (living_any V HWF.out Y (by omega) b off cap wr (HV.out.chg HC.out (fun x => x)))
            go_wp2_with fail
            refine HLV.out.mono ?_
            rintro e w4 ⟨⟨g4, rfl, hg4, hb4⟩, hc4⟩
            have HB4 := Lib.hid hb4; have HC4 := Lib.hid (HC.out.trans hc4 (fun _ x => x.elim))
            clear hb4 hc4 hg4
            obtain ⟨fb, hfb⟩ : ∃ fb, w4.heap.size = fb := ⟨_, rfl⟩
            have HC5 := Lib.hid (HC4.out.alloc (.cells #[.slice (some ⟨g4, 0, none⟩) V.length V.length] 77))
            have HF5 := Lib.hid ((Blk.new w4 #[.slice (some ⟨g4, 0, none⟩) V.length V.length] 77).cell_some (i := 0) rfl)
            have HB5 := Lib.hid (HB4.out.alloc (.cells #[.slice (some ⟨g4, 0, none⟩) V.length V.length] 77))
            rw [hfb] at HF5
            go_wp2_with fail
            clear hfb
            generalize w4.alloc (.cells #[.slice (some ⟨g4, 0, none⟩) V.length V.length] 77) = W5 at HC5 HF5 HB5 ⊢
            refine (HM.out Y s fb g4 V.length W5 HSL.out HFF2.out.1 HF5.out (bools_of_blk HB5.out)).mono ?_
            rintro e w6 ⟨rfl, hbw⟩
            have HC6 := Lib.hid (HC5.out.trans (Chg.of_below (S := fun _ => False) hbw) (fun _ x => x.elim))
            have HFS : Hid (∀ c ∈ s.filter (fun c => atB (livV V Y) c), c < V.length) := Lib.hid (fun c hc => HSL.out c (List.mem_filter.1 hc).1)
            obtain ⟨u, hu⟩ : ∃ u, (s.filter fun c => atB (livV V Y) c) = u := ⟨_, rfl⟩
            rw [hu] at HFS HFF2 HGG2 ⊢
            clear hbw hu
            have HNX := Lib.hid (next_any V HWF.out u HFS.out HFF2.out.2.1 b off cap w6 (HV.out.chg HC6.out (fun x => x)))
            go_wp2_with fail
            refine HNX.out.mono ?_
            rintro e w7 ⟨rfl, hbw⟩
            have HC7 := Lib.hid (HC6.out.trans (Chg.of_below (S := fun _ => False) hbw) (fun _ x => x.elim))
            have HGL := Lib.hid (grow1_lt HWF.out u)
            clear hbw
            go_wp2_with fail
            go_roundg y
            case measure => have := HYY.out; omega
            case rel => exact ⟨y, grow1 V u, by have := HYY.out; omega, rfl, by have := HYY.out; rw [← this]; go_num, rfl, HGL.out, HFF2.out.2.2, HGG2.out, HC7.out⟩
end Go.Proofs.YtilacamhjibneaaDoor
