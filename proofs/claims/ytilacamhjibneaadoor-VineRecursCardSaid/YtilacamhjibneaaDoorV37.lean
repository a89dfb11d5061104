/- few; both Ats at any input; the law VineAt, walked. No condition but the arguments' cells. -/
import Derived.Test.YtilacamhjibneaaDoorV36
set_option linter.unusedVariables false
namespace Go.Proofs.YtilacamhjibneaaDoor
open Go.RowKit

/-- A slice of strings, or none. -/
structure SlS (w : World) (v : Value) (P : List ByteArray) : Prop where
  form : ∃ ao b off c, v = .slice ao P.length c ∧ StrsAt w b off P ∧ (P = [] ∨ ao = some ⟨b, off, none⟩)
  len : P.length ≤ maxLen
  each : ∀ p ∈ P, p.size ≤ maxLen
theorem SlS.chg {w w' : World} {v : Value} {P : List ByteArray} (h : SlS w v P) (hc : Chg (fun _ => False) w w') : SlS w' v P := by
  obtain ⟨ao, b, off, c, h1, h2, h3⟩ := h.form
  exact ⟨⟨ao, b, off, c, h1, h2.chg hc (fun x => x), h3⟩, h.len, h.each⟩

def fwF (P : List ByteArray) : Nat → Bool
  | 0 => true
  | k + 1 => fwF P k && decide (k < 20) && decide ((P[k]?.getD ⟨#[]⟩).size ≤ 50)
def fewV (P : List ByteArray) (s : ByteArray) : Bool := fwF P P.length && decide (s.size ≤ 100)
theorem fwF_bad {P : List ByteArray} {j : Nat} (h : (decide (j < 20) && decide ((P[j]?.getD ⟨#[]⟩).size ≤ 50)) = false) : ∀ k, j < k → fwF P k = false
  | 0, hk => by omega
  | k + 1, hk => by
    rw [fwF, Bool.and_assoc]
    by_cases hj : j = k
    · subst hj; rw [h, Bool.and_false]
    · rw [fwF_bad h k (by omega), Bool.false_and]
theorem fwF_at {P : List ByteArray} : ∀ {k : Nat}, fwF P k = true → ∀ j, j < k → j < 20 ∧ (P[j]?.getD ⟨#[]⟩).size ≤ 50
  | 0, _, j, hj => by omega
  | k + 1, h, j, hj => by
    rw [fwF, Bool.and_eq_true, Bool.and_eq_true] at h
    by_cases hk : j = k
    · subst hk
      exact ⟨by simpa using h.1.2, by simpa using h.2⟩
    · exact fwF_at h.1.1 j (by omega)
theorem few_small {P : List ByteArray} {s : ByteArray} (h : fewV P s = true) : P.length ≤ 1000 ∧ (∀ p ∈ P, p.size ≤ 1000) ∧ s.size ≤ 1000 := by
  unfold fewV at h
  rw [Bool.and_eq_true] at h
  have h2 : s.size ≤ 100 := by simpa using h.2
  have h1 := fwF_at h.1
  refine ⟨?_, fun p hp => ?_, by omega⟩
  · rcases Nat.eq_zero_or_pos P.length with h0 | h0
    · omega
    · have := (h1 (P.length - 1) (by omega)).1; omega
  · obtain ⟨j, hj, rfl⟩ := List.getElem_of_mem hp
    have := (h1 j hj).2
    rw [List.getElem?_eq_getElem hj] at this
    have h3 : P[j].size ≤ 50 := this
    omega

set_option maxRecDepth 100000 in
set_option maxHeartbeats 1000000 in
theorem few_any (P : List ByteArray) (s : ByteArray) (v : Value) (w : World) (hv : SlS w v P) (hs : s.size ≤ maxLen) :
    Calls Tryd.prog 15 #[v, .string s] w fun e w' => e = .returned (.bool (fewV P s)) ∧ w' = w := by
  have HV := Lib.hid hv
  have hlen := hv.len
  unfold maxLen at hlen hs
  obtain ⟨ao, b, off, cap, rfl, hst, ha⟩ := hv.form
  have HST := Lib.hid hst; have HA := Lib.hid ha
  have HBD := Lib.hid (fun (j : Nat) (h : (decide (j < 20) && decide ((P[j]?.getD ⟨#[]⟩).size ≤ 50)) = false) => fwF_bad h)
  have HFW := Lib.hid (show fewV P s = (fwF P P.length && decide (s.size ≤ 100)) from rfl)
  obtain ⟨n, hn⟩ : ∃ n, P.length = n := ⟨_, rfl⟩
  have HN := Lib.hid hn
  rw [hn] at hlen HFW ⊢
  clear hst ha hn hv
  go_enter Tryd.func15, Tryd.ntmps15
  go_wp2_with fail
  go_loopg [5] n (fun gm iv wr => ∃ i : Nat, i ≤ n ∧ i ≤ 20 ∧ gm = n - i ∧ iv = .int .i64 i ∧ fwF P i = true ∧ wr = w)
  case atStart => exact ⟨0, by omega, by omega, by omega, rfl, rfl, rfl⟩
  case round =>
    obtain ⟨i, hi, hi20, rfl, rfl, hf, rfl⟩ := hrel
    have HF := Lib.hid hf
    clear hf
    by_cases hin : i < n
    · have d0 : decide (i < n) = true := by simpa using hin
      by_cases h20 : i < 20
      · have d1 : decide ((20 : Int) ≤ (i : Int)) = false := by simp; omega
        obtain rfl := HA.out.resolve_left (fun e => by have := HN.out; rw [e] at this; simp at this; omega)
        have hiP : i < P.length := by rw [HN.out]; exact hin
        have c0 := HST.out i hiP
        have hsz := HV.out.each _ (List.getElem_mem hiP)
        unfold maxLen at hsz
        have HNX := Lib.hid (show fwF P (i + 1) = (fwF P i && decide (i < 20) && decide (P[i].size ≤ 50)) by rw [fwF, List.getElem?_eq_getElem hiP]; rfl)
        have HBI := Lib.hid (HBD.out i)
        rw [List.getElem?_eq_getElem hiP] at HBI
        obtain ⟨p, hp⟩ : ∃ p, P[i] = p := ⟨_, rfl⟩
        rw [hp] at c0 hsz HNX
        have HBI2 : Hid ((decide (i < 20) && decide (p.size ≤ 50)) = false → ∀ k, i < k → fwF P k = false) := Lib.hid (by rw [← hp]; exact HBI.out)
        clear hp hiP HBI
        by_cases h50 : p.size ≤ 50
        · have d2 : decide ((50 : Int) < (p.size : Int)) = false := by simp; omega
          rw [HF.out, decide_eq_true h20, decide_eq_true h50] at HNX
          go_wp2_with fail
          go_roundg (n - (i + 1))
          case measure => omega
          case rel => exact ⟨i + 1, by omega, by omega, rfl, by go_num, HNX.out, rfl⟩
        · have d2 : decide ((50 : Int) < (p.size : Int)) = true := by simp; omega
          have HFF := Lib.hid (HBI2.out (by rw [decide_eq_false h50, Bool.and_false]) n hin)
          go_wp2_with fail
          go_ret
          exact ⟨by rw [HFW.out, HFF.out]; rfl, rfl⟩
      · have d1 : decide ((20 : Int) ≤ (i : Int)) = true := by simp; omega
        have HFF := Lib.hid (HBD.out i (by rw [decide_eq_false h20, Bool.false_and]) n hin)
        go_wp2_with fail
        go_ret
        exact ⟨by rw [HFW.out, HFF.out]; rfl, rfl⟩
    · obtain rfl : i = n := by omega
      go_wp2_with fail
      go_ret
      exact ⟨by rw [HFW.out, HF.out]; simp; omega, rfl⟩

set_option maxRecDepth 100000 in
set_option maxHeartbeats 1000000 in
/-- Both Ats return the same, at any input that is small. -/
theorem at_both (P : List ByteArray) (s : ByteArray) (years place : Int) (hyi : I64 years) (hpi : I64 place) (hn : P.length ≤ 1000) (hz : ∀ p ∈ P, p.size ≤ 1000) (hzs : s.size ≤ 1000) :
    ∃ (sA : ByteArray) (eA : Int), ∀ (v : Value) (w : World), SlS w v P →
      (Calls Tryd.prog 41 #[v, .string s, .int .i64 years, .int .i64 place] w fun e w' => e = .returned (.tuple #[.string sA, .int .i64 eA]) ∧ Chg (fun _ => False) w w') ∧
      (Calls Tryd.prog 42 #[v, .string s, .int .i64 years, .int .i64 place] w fun e w' => e = .returned (.tuple #[.string sA, .int .i64 eA]) ∧ Chg (fun _ => False) w w') := by
  by_cases he : errS P s = 0
  · obtain ⟨V, t, rfl, rfl, hV, hl, ht⟩ := shot_of he
    have hat : ∃ sA eA, atOk V t years place = .tuple #[.string sA, .int .i64 eA] := by
      unfold atOk
      split
      · exact ⟨_, _, rfl⟩
      · split
        · exact ⟨_, _, rfl⟩
        · split <;> exact ⟨_, _, rfl⟩
    obtain ⟨sA, eA, hA⟩ := hat
    refine ⟨sA, eA, fun v w hv => ?_⟩
    obtain ⟨ao, b, off, cap, rfl, hst, ha⟩ := hv.form
    have hpos := hV.pos
    obtain rfl := ha.resolve_left (fun e => by have h0 := congrArg List.length e; rw [List.length_map, List.length_nil] at h0; omega)
    have hva := vat_of hst
    rw [List.length_map]
    have h1 := at_ok V hV t ht hl years place hyi hpi b off cap w hva
    have h2 := rAt_ok V hV t ht hl years place hyi hpi b off cap w hva
    rw [hA] at h1 h2
    exact ⟨h1, h2⟩
  · refine ⟨⟨#[]⟩, (errS P s : Nat), fun v w hv => ?_⟩
    obtain ⟨ao, b, off, cap, rfl, hst, ha⟩ := hv.form
    have HS := Lib.hid (shot_any P s ao cap b off w hst ha hn hz hzs)
    rw [show shotV ao cap P s = .tuple #[.slice none 0 0, .int .i64 (errS P s : Nat)] by unfold shotV; rw [if_neg he]] at HS
    have HR := Lib.hid (rshoot_any P s ao cap b off w hst ha hn hz hzs)
    obtain ⟨E, hE⟩ : ∃ E, errS P s = E := ⟨_, rfl⟩
    rw [hE] at HS HR ⊢
    have dn : (((E : Nat) : Int) != 0) = true := by simpa [hE] using he
    clear hE he hst ha hv
    constructor
    · go_enter Tryd.func41, Tryd.ntmps41
      go_wp2_with fail
      refine HS.out.mono ?_
      rintro e w1 ⟨rfl, rfl⟩
      go_wp2_with fail
      go_ret2
      exact ⟨rfl, Chg.refl _ _⟩
    · go_enter Tryd.func42, Tryd.ntmps42
      go_wp2_with fail
      refine HR.out.mono ?_
      rintro e w1 ⟨rfl, rfl⟩
      go_wp2_with fail
      go_ret2
      exact ⟨rfl, Chg.refl _ _⟩

set_option maxRecDepth 100000 in
set_option maxHeartbeats 1000000 in
theorem vineAt_law (P : List ByteArray) (s : ByteArray) (years place : Int) (hyi : I64 years) (hpi : I64 place) (v : Value) (w : World) (hv : SlS w v P) (hs : s.size ≤ maxLen) :
    Calls Tryd.prog 11 #[v, .string s, .int .i64 years, .int .i64 place] w fun e w' => e = .returned (.bool true) ∧ Chg (fun _ => False) w w' := by
  have HF := Lib.hid (few_any P s v w hv hs)
  by_cases hfew : fewV P s = true
  · obtain ⟨hn, hz, hzs⟩ := few_small hfew
    rw [hfew] at HF
    obtain ⟨sA, eA, hb⟩ := at_both P s years place hyi hpi hn hz hzs
    have HB := Lib.hid hb
    have HV := Lib.hid hv
    clear hb hfew hn hz hzs hv
    go_enter Tryd.func11, Tryd.ntmps11
    go_wp2_with fail
    refine HF.out.mono ?_
    rintro e w1 ⟨rfl, rfl⟩
    go_wp2_with fail
    refine ((HB.out v w1 HV.out).1).mono ?_
    rintro e w2 ⟨rfl, hc2⟩
    have HC2 := Lib.hid hc2
    clear hc2
    go_wp2_with fail
    refine ((HB.out v w2 (HV.out.chg HC2.out)).2).mono ?_
    rintro e w3 ⟨rfl, hc3⟩
    have HC3 := Lib.hid (HC2.out.trans hc3 (fun _ x => x.elim))
    clear hc3
    go_wp2_with fail
    refine (alive_any w3).mono ?_
    rintro e w4 ⟨rfl, hc4⟩
    have HC4 := Lib.hid (HC3.out.trans hc4 (fun _ x => x.elim))
    clear hc4
    go_wp2_with fail
    go_ret
    exact ⟨rfl, HC4.out⟩
  · have hff : fewV P s = false := by simpa using hfew
    rw [hff] at HF
    clear hfew hff hv
    go_enter Tryd.func11, Tryd.ntmps11
    go_wp2_with fail
    refine HF.out.mono ?_
    rintro e w1 ⟨rfl, rfl⟩
    go_wp2_with fail
    refine (alive_any w1).mono ?_
    rintro e w2 ⟨rfl, hc2⟩
    have HC2 := Lib.hid hc2
    clear hc2
    go_wp2_with fail
    go_ret
    exact ⟨rfl, HC2.out⟩
end Go.Proofs.YtilacamhjibneaaDoor
