/- The reference's Hours, IsPlan, Is and Slack, walked. Their conditions are their premises. -/
import Derived.Test.YtgamekcjjpjnnaaA24
set_option linter.unusedVariables false
namespace Go.Proofs.Ytgamekcjjpjnnaa
open Go.RowKit

theorem Hours_any (T N : Int) (X : List Int) (ar : Option Addr) (c br bo : Nat) (w : World) (hX : IntsAt w br bo X) (har : X = [] ∨ ar = some ⟨br, bo, none⟩) (hl : X.length ≤ 1000) :
    Calls Try.prog 34 #[.int .i64 T, .int .i64 N, .slice ar X.length c] w (BPost (inHours T N X) w) := by
  have HX := Lib.hid hX; have HAR := Lib.hid har
  clear hX har
  by_cases hln : (X.length : Int) = N
  · subst hln
    go_enter Try.func34, Try.ntmps34
    go_wp2_with fail
    go_loop [7] (fun iv => ∃ i : Nat, i ≤ X.length ∧ iv = .int .i64 i ∧ ∀ j (h : j < X.length), j < i → 0 ≤ X[j] ∧ X[j] < T) (fun iv => X.length - (intOf iv).toNat)
    case atStart => exact ⟨0, by omega, rfl, fun j h hj => by omega⟩
    case round =>
      obtain ⟨i, hi, rfl, hno⟩ := hrel
      have HNO := Lib.hid hno
      clear hno
      by_cases hlt : i < X.length
      · have hne : ar = some ⟨br, bo, none⟩ := HAR.out.resolve_left (by intro h; simp [h] at hlt)
        subst hne
        have gk := HX.out i hlt
        have HIN := Lib.hid (List.getElem_mem hlt)
        obtain ⟨x, hx⟩ : ∃ x, X[i] = x := ⟨_, rfl⟩
        rw [hx] at gk
        have HXX := Lib.hid hx
        clear hx
        by_cases h0 : x < 0
        · have d0 : decide (x < 0) = true := by simpa using h0
          have H0 := Lib.hid h0
          clear h0
          go_wp2_with fail
          go_ret
          exact ⟨false, rfl, ⟨fun h => (by cases h), fun h => by have := h.2 _ HIN.out; have := H0.out; have := HXX.out; omega⟩, Chg.refl _ _⟩
        · have d0 : decide (x < 0) = false := by simpa using h0
          by_cases h2 : T ≤ x
          · have d1 : decide (T ≤ x) = true := by simpa using h2
            have H2 := Lib.hid h2
            clear h0 h2
            go_wp2_with fail
            go_ret
            exact ⟨false, rfl, ⟨fun h => (by cases h), fun h => by have := h.2 _ HIN.out; have := H2.out; have := HXX.out; omega⟩, Chg.refl _ _⟩
          · have d1 : decide (T ≤ x) = false := by simpa using h2
            have H2 := Lib.hid h2; have H0 := Lib.hid h0
            clear h0 h2
            go_wp2_with fail
            go_round
            case rel => exact ⟨i + 1, by omega, by go_num, fun j h hj => by
              rcases Nat.lt_succ_iff_lt_or_eq.1 hj with h' | rfl
              · exact HNO.out j h h'
              · have h5 := HXX.out; have h6 := H2.out; have h7 := H0.out; rw [h5]; omega⟩
            case measure => simp [intOf]; omega
      · go_wp2_with fail
        go_ret
        refine ⟨true, rfl, ⟨fun _ => ⟨rfl, fun x hx => ?_⟩, fun _ => rfl⟩, Chg.refl _ _⟩
        obtain ⟨j, hj, rfl⟩ := List.getElem_of_mem hx
        exact HNO.out j hj (by omega)
  · have dl : ((X.length : Int) != N) = true := by simpa using hln
    have HLN := Lib.hid hln; clear hln
    go_enter Try.func34, Try.ntmps34
    go_wp2_with fail
    go_ret
    exact ⟨false, rfl, ⟨fun h => (by cases h), fun h => absurd h.1 HLN.out⟩, Chg.refl _ _⟩

theorem slack_region (T : Int) (s : Sp) (x y : Int) (br bo len c : Nat) (w : World) (z : Ext) (ht : 1 ≤ T) (ht2 : T ≤ 1000) (h0 : -1000 ≤ s.lo) (h1 : s.lo ≤ 1000)
    (hf0 : 0 ≤ s.src) (hg0 : 0 ≤ s.dst) (hf : s.src < len) (hg : s.dst < len) (hl : len ≤ 1000) (hx : 0 ≤ x ∧ x ≤ 1000) (hy : 0 ≤ y ∧ y ≤ 1000)
    (hcx : w.cell? ⟨br, bo + s.src.toNat, none⟩ = some (.int .i64 x)) (hcy : w.cell? ⟨br, bo + s.dst.toNat, none⟩ = some (.int .i64 y)) :
    Calls Try.prog 63 #[.int .i64 T, .agg #[.int .i64 s.src, .int .i64 s.dst, .int .i64 s.lo, .int .i64 s.hi], .slice (some ⟨br, bo, none⟩) len c] (w.grow z) fun e w' => e = .returned (.int .i64 ((y - x - s.lo) % T)) ∧ ∃ x, w' = (w.grow z).grow x :=
  rslack_any T s.src s.dst s.lo s.hi x y br bo len c (w.grow z) ht ht2 h0 h1 hf0 hg0 hf hg hl hx hy (World.grow_cell hcx z) (World.grow_cell hcy z)

set_option maxRecDepth 100000 in
set_option maxHeartbeats 2000000 in
theorem kept_any (l : List Sp) (a : Option Addr) (cap b off : Nat) (X : List Int) (c br bo : Nat) (T N : Int) (w : World) (hv : Valid T N l) (hs : SpansAt w b off l) (ha : l = [] ∨ a = some ⟨b, off, none⟩)
    (hX : IntsAt w br bo X) (hH : inHours T N X) :
    Calls Try.prog 77 #[.int .i64 T, .slice a l.length cap, .slice (some ⟨br, bo, none⟩) X.length c] w (BPost (∀ s ∈ l, slackV T s X ≤ s.hi - s.lo) w) := by
  have HV := Lib.hid hv; have HS := Lib.hid hs; have HA := Lib.hid ha; have HX := Lib.hid hX; have HH := Lib.hid hH
  have hl20 := hv.len
  clear hv hs ha hX hH
  go_enter Try.func77, Try.ntmps77
  go_wp2_with fail
  go_loopg [7] l.length (fun g iv wr => ∃ i : Nat, i ≤ l.length ∧ g = l.length - i ∧ iv = .int .i64 i ∧ (∀ j (h : j < l.length), j < i → slackV T l[j] X ≤ l[j].hi - l[j].lo) ∧ Chg (fun _ => False) w wr)
  case atStart => exact ⟨0, by omega, by omega, rfl, fun j h hj => by omega, Chg.refl _ w⟩
  case round =>
    obtain ⟨i, hi, rfl, rfl, hno, hcg⟩ := hrel
    have HNO := Lib.hid hno; have HCG := Lib.hid hcg
    clear hno hcg
    by_cases hlt : i < l.length
    · have hne : a = some ⟨b, off, none⟩ := HA.out.resolve_left (by intro h; simp [h] at hlt)
      subst hne
      obtain ⟨c0, c1, c2, c3⟩ := HS.out.chg HCG.out (fun x => x) i hlt
      have HIN := Lib.hid (List.getElem_mem hlt)
      obtain ⟨s, hs⟩ : ∃ s, l[i] = s := ⟨_, rfl⟩
      have hok := HV.out.ok _ HIN.out
      rw [hs] at c0 c1 c2 c3 hok
      have HSS := Lib.hid hs
      clear hs
      have hlen := HH.out.1
      have hn2 := HV.out.n2
      have ht1 := HV.out.t1
      have ht2 := HV.out.t2
      have hx := inHours_hr HH.out (i := s.src.toNat) (by omega)
      have hy := inHours_hr HH.out (i := s.dst.toNat) (by omega)
      have hXw := HX.out.chg HCG.out (fun x => x)
      have hcx := hXw s.src.toNat (by omega)
      have hcy := hXw s.dst.toNat (by omega)
      rw [hr_get] at hcx hcy
      obtain ⟨x, hxx⟩ : ∃ x, hr X s.src.toNat = x := ⟨_, rfl⟩
      obtain ⟨y, hyy⟩ : ∃ y, hr X s.dst.toNat = y := ⟨_, rfl⟩
      rw [hxx] at hx hcx
      rw [hyy] at hy hcy
      have hkx : s.src < X.length := by omega
      have hky : s.dst < X.length := by omega
      have dkx : decide (s.src < (X.length : Int)) = true := by rw [decide_eq_true_eq]; exact hkx
      have dky : decide (s.dst < (X.length : Int)) = true := by rw [decide_eq_true_eq]; exact hky
      obtain ⟨q, hq⟩ : ∃ q, slackV T s X = q := ⟨_, rfl⟩
      have HSV := Lib.hid (show (y - x - s.lo) % T = q by rw [← hq]; unfold slackV; rw [hxx, hyy])
      have HQ := Lib.hid hq
      have HCX := Lib.hid hcx; have HCY := Lib.hid hcy
      have HLEN := Lib.hid hlen
      have g0 := World.grow_cell c0
      have g1 := World.grow_cell c1
      have g2 := World.grow_cell c2
      have g3 := World.grow_cell c3
      clear hlen hxx hyy hXw hcx hcy hq c0 c1 c2 c3
      have HSL := Lib.hid (fun (z : Ext) => slack_region T s x y br bo X.length c wr z ht1 (by omega) (by omega) (by omega) (by omega) (by omega) hkx hky (by have := HLEN.out; omega) (by omega) (by omega) HCX.out HCY.out)
      simp only [HSV.out] at HSL
      by_cases hd : s.hi - s.lo < q
      · have dd : decide (s.hi - s.lo < q) = true := by simpa using hd
        have HD := Lib.hid hd
        clear hd
        go_wp2_with fail
        refine wp_region_grow_lit (by kernel_rfl) (by kernel_rfl) ?_
        repeat (go_big_quiet_step ((go_at_call 63; exact Calls.grow_of (HSL.out _))))
        refine wpQuiet_nil ?_
        intro _ hw'
        obtain ⟨nq, hw''⟩ := hw'
        subst hw''
        have HG := Lib.hid (HCG.out.grow nq)
        clear g0 g1 g2 g3
        go_wp2_with fail
        go_ret
        exact ⟨false, rfl, ⟨fun h => (by cases h), fun h => by
          have h1 := h _ HIN.out
          rw [HSS.out, HQ.out] at h1
          have h2 := HD.out
          omega⟩, HG.out⟩
      · have dd : decide (s.hi - s.lo < q) = false := by simpa using hd
        have HD := Lib.hid hd
        clear hd
        go_wp2_with fail
        refine wp_region_grow_lit (by kernel_rfl) (by kernel_rfl) ?_
        repeat (go_big_quiet_step ((go_at_call 63; exact Calls.grow_of (HSL.out _))))
        refine wpQuiet_nil ?_
        intro _ hw'
        obtain ⟨nq, hw''⟩ := hw'
        subst hw''
        have HG := Lib.hid (HCG.out.grow nq)
        clear g0 g1 g2 g3
        go_wp2_with fail
        go_roundg (l.length - (i + 1))
        case measure => omega
        case rel => exact ⟨i + 1, by omega, rfl, by go_num, fun j h hj => by
          rcases Nat.lt_succ_iff_lt_or_eq.1 hj with h' | rfl
          · exact HNO.out j h h'
          · rw [HSS.out, HQ.out]; have := HD.out; omega, HG.out⟩
    · go_wp2_with fail
      go_ret
      refine ⟨true, rfl, ⟨fun _ s hs => ?_, fun _ => rfl⟩, HCG.out⟩
      obtain ⟨j, hj, rfl⟩ := List.getElem_of_mem hs
      exact HNO.out j hj (by omega)
end Go.Proofs.Ytgamekcjjpjnnaa
