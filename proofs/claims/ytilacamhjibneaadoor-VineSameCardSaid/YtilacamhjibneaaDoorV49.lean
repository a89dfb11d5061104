/- Both Sames, both Alikes at any input; the law VineSame, walked. No condition but the arguments' cells. -/
import Derived.Test.YtilacamhjibneaaDoorV48
set_option linter.unusedVariables false
namespace Go.Proofs.YtilacamhjibneaaDoor
open Go.RowKit

def TwoI (x : Value) : Prop := ∃ a e : Int, x = .tuple #[.int .i64 a, .int .i64 e]
theorem sameF_two (a b : Nat → Nat) : ∀ f y, TwoI (sameF a b f y)
  | 0, _ => ⟨_, _, rfl⟩
  | f + 1, y => by
    rw [sameF]
    split
    · exact sameF_two a b f (y + 1)
    · exact ⟨_, _, rfl⟩
theorem alkF_two (V : List (List Nat)) (t : List Nat) (W : List (List Nat)) (u : List Nat) : ∀ f y, TwoI (alkF V t W u f y)
  | 0, _ => ⟨_, _, rfl⟩
  | f + 1, y => by
    rw [alkF]
    split
    · exact ⟨_, _, rfl⟩
    · split
      · exact ⟨_, _, rfl⟩
      · split
        · exact ⟨_, _, rfl⟩
        · exact alkF_two V t W u f (y + 1)
theorem sm_of {w : World} {v : Value} {P : List ByteArray} {s : ByteArray} (hv : SlS w v P) (hn : P.length ≤ 1000) (hz : ∀ p ∈ P, p.size ≤ 1000) (hzs : s.size ≤ 1000) : ∃ ao b off c, v = .slice ao P.length c ∧ Sm w P s ao b off := by
  obtain ⟨ao, b, off, c, h1, h2, h3⟩ := hv.form
  exact ⟨ao, b, off, c, h1, h2, h3, hn, hz, hzs⟩

theorem both_all (P : List ByteArray) (s : ByteArray) (Q : List ByteArray) (u : ByteArray) (hn : P.length ≤ 1000) (hz : ∀ p ∈ P, p.size ≤ 1000) (hzs : s.size ≤ 1000) (hn2 : Q.length ≤ 1000) (hz2 : ∀ p ∈ Q, p.size ≤ 1000) (hzs2 : u.size ≤ 1000) :
    ∃ (a e a2 e2 : Int), ∀ (v v2 : Value) (w : World), SlS w v P → SlS w v2 Q →
      (Calls Tryd.prog 37 #[v, .string s, v2, .string u] w fun x w' => x = .returned (.tuple #[.int .i64 a, .int .i64 e]) ∧ Chg (fun _ => False) w w') ∧
      (Calls Tryd.prog 38 #[v, .string s, v2, .string u] w fun x w' => x = .returned (.tuple #[.int .i64 a, .int .i64 e]) ∧ Chg (fun _ => False) w w') ∧
      (Calls Tryd.prog 39 #[v, .string s, v2, .string u] w fun x w' => x = .returned (.tuple #[.int .i64 a2, .int .i64 e2]) ∧ Chg (fun _ => False) w w') ∧
      (Calls Tryd.prog 40 #[v, .string s, v2, .string u] w fun x w' => x = .returned (.tuple #[.int .i64 a2, .int .i64 e2]) ∧ Chg (fun _ => False) w w') := by
  by_cases he : bothE P s Q u = 0
  · have h1 : errS P s = 0 := by
      unfold bothE at he
      by_cases h : errS P s = 0
      · exact h
      · rw [if_neg h] at he; exact he
    have h2 : errS Q u = 0 := by unfold bothE at he; rwa [if_pos h1] at he
    obtain ⟨V, t, rfl, rfl, hV, hl, ht⟩ := shot_of h1
    obtain ⟨W, r, rfl, rfl, hW, hl2, hr⟩ := shot_of h2
    obtain ⟨a, e, hS⟩ := sameF_two (ln V t) (ln W r) (V.length + W.length) 0
    obtain ⟨a2, e2, hA⟩ := alkF_two V t W r 12 0
    refine ⟨a, e, a2, e2, fun v v2 w hv hv2 => ?_⟩
    obtain ⟨ao, b, off, cap, rfl, hst, ha⟩ := hv.form
    obtain ⟨bo, b2, off2, cap2, rfl, hst2, ha2⟩ := hv2.form
    have hp := hV.pos
    have hp2 := hW.pos
    obtain rfl := ha.resolve_left (fun e => by have h0 := congrArg List.length e; rw [List.length_map, List.length_nil] at h0; omega)
    obtain rfl := ha2.resolve_left (fun e => by have h0 := congrArg List.length e; rw [List.length_map, List.length_nil] at h0; omega)
    have hva := vat_of hst
    have hvb := vat_of hst2
    rw [List.length_map, List.length_map]
    have k1 := same_ok V hV t ht hl b off cap W hW r hr hl2 b2 off2 cap2 w hva hvb
    have k2 := rsame_ok V hV t ht hl b off cap W hW r hr hl2 b2 off2 cap2 w hva hvb
    have k3 := alike_ok V hV t ht hl b off cap W hW r hr hl2 b2 off2 cap2 w hva hvb
    have k4 := ralike_ok V hV t ht hl b off cap W hW r hr hl2 b2 off2 cap2 w hva hvb
    rw [hS] at k1 k2
    rw [hA] at k3 k4
    exact ⟨k1, k2, k3, k4⟩
  · refine ⟨0, (bothE P s Q u : Nat), 0, (bothE P s Q u : Nat), fun v v2 w hv hv2 => ?_⟩
    obtain ⟨ao, b, off, cap, rfl, h1⟩ := sm_of (s := s) hv hn hz hzs
    obtain ⟨bo, b2, off2, cap2, rfl, h2⟩ := sm_of (s := u) hv2 hn2 hz2 hzs2
    exact ⟨(same_err P s ao cap b off Q u bo cap2 b2 off2 w h1 h2 he).mono fun x w' h => ⟨h.1, by rw [h.2]; exact Chg.refl _ _⟩,
      (rsame_err P s ao cap b off Q u bo cap2 b2 off2 w h1 h2 he).mono fun x w' h => ⟨h.1, by rw [h.2]; exact Chg.refl _ _⟩,
      (alike_err P s ao cap b off Q u bo cap2 b2 off2 w h1 h2 he).mono fun x w' h => ⟨h.1, by rw [h.2]; exact Chg.refl _ _⟩,
      (ralike_err P s ao cap b off Q u bo cap2 b2 off2 w h1 h2 he).mono fun x w' h => ⟨h.1, by rw [h.2]; exact Chg.refl _ _⟩⟩

set_option maxRecDepth 100000 in
set_option maxHeartbeats 1000000 in
theorem vineSame_law (P : List ByteArray) (s : ByteArray) (Q : List ByteArray) (u : ByteArray) (v v2 : Value) (w : World) (hv : SlS w v P) (hs : s.size ≤ maxLen) (hv2 : SlS w v2 Q) (hu : u.size ≤ maxLen) :
    Calls Tryd.prog 10 #[v, .string s, v2, .string u] w fun e w' => e = .returned (.bool true) ∧ Chg (fun _ => False) w w' := by
  have HF := Lib.hid (few_any P s v w hv hs)
  have HF2 := Lib.hid (few_any Q u v2 w hv2 hu)
  by_cases hfew : fewV P s = true
  · by_cases hfew2 : fewV Q u = true
    · obtain ⟨hn, hz, hzs⟩ := few_small hfew
      obtain ⟨hn2, hz2, hzs2⟩ := few_small hfew2
      rw [hfew] at HF
      rw [hfew2] at HF2
      obtain ⟨a, e, a2, e2, hb⟩ := both_all P s Q u hn hz hzs hn2 hz2 hzs2
      have HB := Lib.hid hb
      have HV := Lib.hid hv; have HV2 := Lib.hid hv2
      clear hb hfew hfew2 hn hz hzs hn2 hz2 hzs2 hv hv2
      go_enter Tryd.func10, Tryd.ntmps10
      go_wp2_with fail
      refine HF.out.mono ?_
      rintro e w1 ⟨rfl, rfl⟩
      go_wp2_with fail
      refine HF2.out.mono ?_
      rintro e w1 ⟨rfl, rfl⟩
      go_wp2_with fail
      refine ((HB.out v v2 w1 HV.out HV2.out).1).mono ?_
      rintro e w2 ⟨rfl, hc2⟩
      have HC2 := Lib.hid hc2
      clear hc2
      go_wp2_with fail
      refine ((HB.out v v2 w2 (HV.out.chg HC2.out) (HV2.out.chg HC2.out)).2.1).mono ?_
      rintro e w3 ⟨rfl, hc3⟩
      have HC3 := Lib.hid (HC2.out.trans hc3 (fun _ x => x.elim))
      clear hc3
      go_wp2_with fail
      refine ((HB.out v v2 w3 (HV.out.chg HC3.out) (HV2.out.chg HC3.out)).2.2.1).mono ?_
      rintro e w4 ⟨rfl, hc4⟩
      have HC4 := Lib.hid (HC3.out.trans hc4 (fun _ x => x.elim))
      clear hc4
      go_wp2_with fail
      refine ((HB.out v v2 w4 (HV.out.chg HC4.out) (HV2.out.chg HC4.out)).2.2.2).mono ?_
      rintro e w5 ⟨rfl, hc5⟩
      have HC5 := Lib.hid (HC4.out.trans hc5 (fun _ x => x.elim))
      clear hc5
      go_wp2_with fail
      refine (alive_any w5).mono ?_
      rintro e w6 ⟨rfl, hc6⟩
      have HC6 := Lib.hid (HC5.out.trans hc6 (fun _ x => x.elim))
      clear hc6
      go_wp2_with fail
      go_ret
      exact ⟨rfl, HC6.out⟩
    · have hff : fewV Q u = false := by simpa using hfew2
      rw [hfew] at HF
      rw [hff] at HF2
      clear hfew hff hfew2 hv hv2
      go_enter Tryd.func10, Tryd.ntmps10
      go_wp2_with fail
      refine HF.out.mono ?_
      rintro e w1 ⟨rfl, rfl⟩
      go_wp2_with fail
      refine HF2.out.mono ?_
      rintro e w1 ⟨rfl, rfl⟩
      go_wp2_with fail
      refine (alive_any w1).mono ?_
      rintro e w2 ⟨rfl, hc2⟩
      have HC2 := Lib.hid hc2
      clear hc2
      go_wp2_with fail
      go_ret
      exact ⟨rfl, HC2.out⟩
  · have hff : fewV P s = false := by simpa using hfew
    rw [hff] at HF
    clear hfew hff hv hv2
    go_enter Tryd.func10, Tryd.ntmps10
    go_wp2_with fail
    refine HF.out.mono ?_
    rintro e w1 ⟨rfl, rfl⟩
    go_wp2_with fail
    refine (alive_any w1).mono ?_
    rintro e w2 ⟨rfl, hc2⟩
    have HC2 := Lib.hid hc2
    clear hc2
    go_wp2_with fail
    go_ret
    exact ⟨rfl, HC2.out⟩
end Go.Proofs.YtilacamhjibneaaDoor
