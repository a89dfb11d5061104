/- More spans, wider spans: how the number of plans changes. Plain facts. -/
import Derived.Test.YtgamekcjjpjnnaaM7
set_option linter.unusedVariables false
namespace Go.Proofs.Ytgamekcjjpjnnaa

theorem plansFrom_mono {T : Nat} {l l' : List Sp} (h : ∀ X, okPlan T l' X = true → okPlan T l X = true) (m : Nat) : ∀ X, (plansFrom T l' m X).length ≤ (plansFrom T l m X).length := by
  induction m with
  | zero =>
    intro X
    unfold plansFrom
    by_cases h1 : okPlan T l' X = true
    · rw [if_pos h1, if_pos (h X h1)]
      exact Nat.le_refl _
    · rw [if_neg h1]
      simp
  | succ m ih =>
    intro X
    unfold plansFrom
    rw [List.length_flatMap, List.length_flatMap]
    have key : ∀ L : List Nat, (L.map fun (x : Nat) => (plansFrom T l' m (X ++ [(x : Int)])).length).sum ≤ (L.map fun (x : Nat) => (plansFrom T l m (X ++ [(x : Int)])).length).sum := by
      intro L
      induction L with
      | nil => simp
      | cons a L ihL =>
        simp only [List.map_cons, List.sum_cons]
        have := ih (X ++ [(a : Int)])
        omega
    exact key _

theorem plans_mono {T N : Nat} {l l' : List Sp} (h : ∀ X, okPlan T l' X = true → okPlan T l X = true) : (plans T N l').length ≤ (plans T N l).length := plansFrom_mono h N []

theorem okPlan_iff {T : Nat} {l : List Sp} {X : List Int} : okPlan T l X = true ↔ hr X 0 = 0 ∧ ∀ s ∈ l, slackV T s X ≤ s.hi - s.lo := by
  unfold okPlan
  rw [decide_eq_true_eq]
  rfl

theorem plans_more {T N : Nat} {l : List Sp} {m : Sp} : (plans T N (l ++ [m])).length ≤ (plans T N l).length :=
  plans_mono fun X h => by
    rw [okPlan_iff] at h ⊢
    exact ⟨h.1, fun s hs => h.2 s (by simp [hs])⟩

theorem plans_same {T N : Nat} {l : List Sp} {m : Sp} (hT : 1 ≤ T) (hm : m.hi = m.lo + T - 1) : (plans T N (l ++ [m])).length = (plans T N l).length := by
  refine Nat.le_antisymm plans_more (plans_mono fun X h => ?_)
  rw [okPlan_iff] at h ⊢
  refine ⟨h.1, fun s hs => ?_⟩
  rcases List.mem_append.1 hs with h1 | h1
  · exact h.2 s h1
  · obtain rfl : s = m := by simpa using h1
    have := slackV_bounds (T := (T : Int)) (by omega) s X
    omega

/-- One span widened. -/
def wideS (s : Sp) (a b : Int) : Sp := ⟨s.src, s.dst, s.lo - a, s.hi + b⟩

theorem wide_slack {T : Int} {s : Sp} {a b : Int} {X : List Int} (hT : 1 ≤ T) (ha : 0 ≤ a) (hb : 0 ≤ b) (h1 : s.lo ≤ s.hi) (h2 : s.hi + b ≤ s.lo - a + T - 1) (h : slackV T s X ≤ s.hi - s.lo) : slackV T (wideS s a b) X ≤ (wideS s a b).hi - (wideS s a b).lo := by
  have b1 := slackV_bounds hT s X
  have b2 := slackV_bounds hT (wideS s a b) X
  obtain ⟨q1, e1⟩ : ∃ q, slackV T s X = hr X s.dst.toNat - hr X s.src.toNat - s.lo + T * q := by
    unfold slackV
    have e := Int.emod_add_mul_ediv (hr X s.dst.toNat - hr X s.src.toNat - s.lo) T
    exact ⟨-((hr X s.dst.toNat - hr X s.src.toNat - s.lo) / T), by rw [Int.mul_neg]; omega⟩
  obtain ⟨q2, e2⟩ : ∃ q, slackV T (wideS s a b) X = hr X s.dst.toNat - hr X s.src.toNat - (s.lo - a) + T * q := by
    unfold slackV wideS
    dsimp only
    have e := Int.emod_add_mul_ediv (hr X s.dst.toNat - hr X s.src.toNat - (s.lo - a)) T
    exact ⟨-((hr X s.dst.toNat - hr X s.src.toNat - (s.lo - a)) / T), by rw [Int.mul_neg]; omega⟩
  have hsum : slackV T (wideS s a b) X = slackV T s X + a + T * (q2 - q1) := by rw [Int.mul_sub]; omega
  obtain ⟨q, hq⟩ : ∃ q, q2 - q1 = q := ⟨_, rfl⟩
  rw [hq] at hsum
  have q0 : q ≤ 0 := by
    rcases Int.lt_or_le 0 q with h3 | h3
    · have : T * 1 ≤ T * q := Int.mul_le_mul_of_nonneg_left (by omega) (by omega)
      omega
    · exact h3
  have hle : T * q ≤ 0 := by
    have : T * q ≤ T * 0 := Int.mul_le_mul_of_nonneg_left q0 (by omega)
    omega
  unfold wideS at *
  dsimp only at *
  omega

theorem plans_wide {T N : Nat} {l : List Sp} {i : Nat} {a b : Int} (hv : Valid T N l) (hi : i < l.length) (ha : 0 ≤ a) (hb : 0 ≤ b) (h2 : l[i].hi + b ≤ l[i].lo - a + T - 1) : (plans T N l).length ≤ (plans T N (l.set i (wideS l[i] a b))).length :=
  plans_mono fun X h => by
    rw [okPlan_iff] at h ⊢
    refine ⟨h.1, fun s hs => ?_⟩
    rcases List.mem_or_eq_of_mem_set hs with h1 | rfl
    · exact h.2 s h1
    · have hm := List.getElem_mem hi
      have h3 := hv.ok _ hm
      exact wide_slack hv.t1 ha hb (by omega) h2 (h.2 _ hm)
end Go.Proofs.Ytgamekcjjpjnnaa
