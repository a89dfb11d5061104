/- The walk of the statement TurnRings: it returns true and changes nothing that was there. Its conditions are its premises. -/
import Derived.Test.YtgamekcjjpjnnaaA20
set_option linter.unusedVariables false
namespace Go.Proofs.Ytgamekcjjpjnnaa
open Go.RowKit

theorem ringSearch_len {T : Nat} {l : List Sp} : ∀ {m : Nat} {R X : List Int}, ringSearch T l m R = some X → X.length = R.length + m := by
  intro m
  induction m with
  | zero =>
    intro R X h
    unfold ringSearch at h
    split at h
    · cases h; rfl
    · cases h
  | succ m ih =>
    intro R X h
    unfold ringSearch at h
    obtain ⟨k, _, hk⟩ := List.exists_of_findSome?_eq_some h
    split at hk
    · have := ih hk
      simp at this
      omega
    · cases hk

theorem ringE_len (t n : Int) (l : List Sp) : (ringE t n l).1.length ≤ 1000 := by
  unfold ringE
  split
  · simp
  · rename_i h
    have hv := valid_of (by simpa using h)
    have hn2 := hv.n2
    split
    · simp
    · rename_i X hX
      obtain ⟨i, hi, hs⟩ := List.exists_of_findSome?_eq_some hX
      have := ringSearch_len hs
      rw [List.mem_range] at hi
      simp at this
      simp
      omega

/-- What every statement leaves. -/
def TPost (w : World) (e : Ending) (w' : World) : Prop := e = .returned (.bool true) ∧ Chg (fun _ => False) w w'

set_option maxRecDepth 100000 in
set_option maxHeartbeats 1000000 in
theorem rings_walk (t n : Int) (l : List Sp) (a : Option Addr) (cap : Nat) (w : World) (b off : Nat) (hs : SpansAt w b off l) (ha : l = [] ∨ a = some ⟨b, off, none⟩) :
    Calls Try.prog 3 #[.int .i64 t, .int .i64 n, .slice a l.length cap] w (TPost w) := by
  have HS := Lib.hid hs; have HA := Lib.hid ha; clear hs ha
  by_cases h40 : l.length ≤ 40
  · have d40 : decide (l.length ≤ 40 ∧ 0 ≤ 40 ∧ 0 ≤ 40) = true := by simpa using h40
    by_cases hc : 4 < n ∧ 10 < l.length ∧ l.length ≤ 20
    · have k1 : decide (4 < n) = true := by simpa using hc.1
      have k2 : decide (10 < (l.length : Int)) = true := by rw [decide_eq_true_eq]; omega
      have k3 : decide ((l.length : Int) ≤ 20) = true := by rw [decide_eq_true_eq]; omega
      clear hc
      go_enter Try.func3, Try.ntmps3
      go_wp2_with fail
      refine (few_any a none none l.length 0 0 cap 0 0 w).mono ?_
      rw [d40]
      rintro e w' ⟨rfl, rfl⟩
      go_wp2_with fail
      refine (alive_any w').mono ?_
      rintro e w1 ⟨rfl, hc⟩
      go_wp2_with fail
      go_ret
      exact ⟨rfl, hc⟩
    · have hc' : ¬ 4 < n ∨ 4 < n ∧ ¬ 10 < l.length ∨ 4 < n ∧ 10 < l.length ∧ ¬ l.length ≤ 20 := by omega
      clear hc
      obtain ⟨hc, HH⟩ : ∃ _ : True, Hid (¬ 4 < n ∨ 4 < n ∧ ¬ 10 < l.length ∨ 4 < n ∧ 10 < l.length ∧ ¬ l.length ≤ 20) := ⟨trivial, Lib.hid hc'⟩
      clear hc hc'
      rcases HH.out with h1 | ⟨h1, h2⟩ | ⟨h1, h2, h3⟩
      · have k1 : decide (4 < n) = false := by simpa using h1
        clear h1 HH
        go_enter Try.func3, Try.ntmps3
        go_wp2_with fail
        refine (few_any a none none l.length 0 0 cap 0 0 w).mono ?_
        rw [d40]
        rintro e w' ⟨rfl, rfl⟩
        go_wp2_with fail
        refine (Ring_any t n l a cap w' b off HS.out HA.out).mono ?_
        rintro e w1 ⟨ao, c, g, rfl, hg, hI, hc⟩
        have hlen := ringE_len t n l
        obtain ⟨L, E, hLE⟩ : ∃ L E, ringE t n l = (L, E) := ⟨_, _, rfl⟩
        rw [hLE] at hg hI hlen ⊢
        have HLE := Lib.hid hLE; have HG := Lib.hid hg; have HI := Lib.hid hI; have HC := Lib.hid hc; have HLN := Lib.hid hlen
        clear hLE hg hI hc hlen
        go_wp2_with fail
        refine (rRing_any t n l a cap w1 b off (HS.out.chg HC.out (fun x => x)) HA.out).mono ?_
        rw [HLE.out]
        rintro e w2 ⟨ao2, c2, g2, rfl, hg2, hI2, hc2⟩
        have HG2 := Lib.hid hg2; have HI2 := Lib.hid hI2; have HC2 := Lib.hid (HC.out.trans hc2 (fun _ x => x.elim)); have HI1 := Lib.hid (HI.out.chg hc2 (fun x => x))
        clear hg2 hI2 hc2
        go_wp2_with fail
        refine (same_any L L ao ao2 g 0 g2 0 c c2 w2 HI1.out HI2.out HG.out HG2.out HLN.out HLN.out).mono ?_
        rintro e w3 ⟨rfl, x, rfl⟩
        have HC3 := Lib.hid (HC2.out.grow x)
        rw [show decide (L = L) = true by simp]
        go_wp2_with fail
        refine (alive_any _).mono ?_
        rintro e w4 ⟨rfl, hc4⟩
        have HC4 := Lib.hid (HC3.out.trans hc4 (fun _ x => x.elim))
        clear hc4
        go_wp2_with fail
        go_ret
        exact ⟨rfl, HC4.out⟩
      · have k1 : decide (4 < n) = true := by simpa using h1
        have k2 : decide (10 < (l.length : Int)) = false := by rw [decide_eq_false_iff_not]; omega
        clear h1 h2 HH
        go_enter Try.func3, Try.ntmps3
        go_wp2_with fail
        refine (few_any a none none l.length 0 0 cap 0 0 w).mono ?_
        rw [d40]
        rintro e w' ⟨rfl, rfl⟩
        go_wp2_with fail
        refine (Ring_any t n l a cap w' b off HS.out HA.out).mono ?_
        rintro e w1 ⟨ao, c, g, rfl, hg, hI, hc⟩
        have hlen := ringE_len t n l
        obtain ⟨L, E, hLE⟩ : ∃ L E, ringE t n l = (L, E) := ⟨_, _, rfl⟩
        rw [hLE] at hg hI hlen ⊢
        have HLE := Lib.hid hLE; have HG := Lib.hid hg; have HI := Lib.hid hI; have HC := Lib.hid hc; have HLN := Lib.hid hlen
        clear hLE hg hI hc hlen
        go_wp2_with fail
        refine (rRing_any t n l a cap w1 b off (HS.out.chg HC.out (fun x => x)) HA.out).mono ?_
        rw [HLE.out]
        rintro e w2 ⟨ao2, c2, g2, rfl, hg2, hI2, hc2⟩
        have HG2 := Lib.hid hg2; have HI2 := Lib.hid hI2; have HC2 := Lib.hid (HC.out.trans hc2 (fun _ x => x.elim)); have HI1 := Lib.hid (HI.out.chg hc2 (fun x => x))
        clear hg2 hI2 hc2
        go_wp2_with fail
        refine (same_any L L ao ao2 g 0 g2 0 c c2 w2 HI1.out HI2.out HG.out HG2.out HLN.out HLN.out).mono ?_
        rintro e w3 ⟨rfl, x, rfl⟩
        have HC3 := Lib.hid (HC2.out.grow x)
        rw [show decide (L = L) = true by simp]
        go_wp2_with fail
        refine (alive_any _).mono ?_
        rintro e w4 ⟨rfl, hc4⟩
        have HC4 := Lib.hid (HC3.out.trans hc4 (fun _ x => x.elim))
        clear hc4
        go_wp2_with fail
        go_ret
        exact ⟨rfl, HC4.out⟩
      · have k1 : decide (4 < n) = true := by simpa using h1
        have k2 : decide (10 < (l.length : Int)) = true := by rw [decide_eq_true_eq]; omega
        have k3 : decide ((l.length : Int) ≤ 20) = false := by rw [decide_eq_false_iff_not]; omega
        clear h1 h2 h3 HH
        go_enter Try.func3, Try.ntmps3
        go_wp2_with fail
        refine (few_any a none none l.length 0 0 cap 0 0 w).mono ?_
        rw [d40]
        rintro e w' ⟨rfl, rfl⟩
        go_wp2_with fail
        refine (Ring_any t n l a cap w' b off HS.out HA.out).mono ?_
        rintro e w1 ⟨ao, c, g, rfl, hg, hI, hc⟩
        have hlen := ringE_len t n l
        obtain ⟨L, E, hLE⟩ : ∃ L E, ringE t n l = (L, E) := ⟨_, _, rfl⟩
        rw [hLE] at hg hI hlen ⊢
        have HLE := Lib.hid hLE; have HG := Lib.hid hg; have HI := Lib.hid hI; have HC := Lib.hid hc; have HLN := Lib.hid hlen
        clear hLE hg hI hc hlen
        go_wp2_with fail
        refine (rRing_any t n l a cap w1 b off (HS.out.chg HC.out (fun x => x)) HA.out).mono ?_
        rw [HLE.out]
        rintro e w2 ⟨ao2, c2, g2, rfl, hg2, hI2, hc2⟩
        have HG2 := Lib.hid hg2; have HI2 := Lib.hid hI2; have HC2 := Lib.hid (HC.out.trans hc2 (fun _ x => x.elim)); have HI1 := Lib.hid (HI.out.chg hc2 (fun x => x))
        clear hg2 hI2 hc2
        go_wp2_with fail
        refine (same_any L L ao ao2 g 0 g2 0 c c2 w2 HI1.out HI2.out HG.out HG2.out HLN.out HLN.out).mono ?_
        rintro e w3 ⟨rfl, x, rfl⟩
        have HC3 := Lib.hid (HC2.out.grow x)
        rw [show decide (L = L) = true by simp]
        go_wp2_with fail
        refine (alive_any _).mono ?_
        rintro e w4 ⟨rfl, hc4⟩
        have HC4 := Lib.hid (HC3.out.trans hc4 (fun _ x => x.elim))
        clear hc4
        go_wp2_with fail
        go_ret
        exact ⟨rfl, HC4.out⟩
  · have d40 : decide (l.length ≤ 40 ∧ 0 ≤ 40 ∧ 0 ≤ 40) = false := by simp; omega
    go_enter Try.func3, Try.ntmps3
    go_wp2_with fail
    refine (few_any a none none l.length 0 0 cap 0 0 w).mono ?_
    rw [d40]
    rintro e w' ⟨rfl, rfl⟩
    go_wp2_with fail
    refine (alive_any w').mono ?_
    rintro e w1 ⟨rfl, hc⟩
    go_wp2_with fail
    go_ret
    exact ⟨rfl, hc⟩

theorem rings_law (t n : Int) (l : List Sp) (a : Option Addr) (cap b off : Nat) (w : World) (_ : (Lit.int .i64 t).wf = true) (_ : (Lit.int .i64 n).wf = true) (hs : SpansAt w b off l) (ha : l = [] ∨ a = some ⟨b, off, none⟩) (_ : ∀ s ∈ l, s.I64) :
    Calls Try.prog 3 #[.int .i64 t, .int .i64 n, .slice a l.length cap] w (TPost w) := rings_walk t n l a cap w b off hs ha
end Go.Proofs.Ytgamekcjjpjnnaa
