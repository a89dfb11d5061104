/- Plans without spans: how many there are, and which is the first. Plain facts. -/
import Derived.Test.YtgamekcjjpjnnaaM7
set_option linter.unusedVariables false
namespace Go.Proofs.Ytgamekcjjpjnnaa
open Go.RowKit

theorem okPlan_nil {T : Nat} {X : List Int} (h : hr X 0 = 0) : okPlan T [] X = true := by
  unfold okPlan
  rw [decide_eq_true_eq]
  exact ⟨h, fun s hs => by cases hs⟩

theorem snoc_zero {X : List Int} {h : Int} (h0 : 0 < X.length) (h1 : hr X 0 = 0) : hr (X ++ [h]) 0 = 0 ∧ 0 < (X ++ [h]).length := ⟨by rw [hr_append_lt h0]; exact h1, by simp⟩

theorem free_len {T m : Nat} : ∀ {X : List Int}, 0 < X.length → hr X 0 = 0 → (plansFrom T [] m X).length = T ^ m := by
  induction m with
  | zero =>
    intro X h0 h1
    unfold plansFrom
    rw [if_pos (okPlan_nil h1)]
    simp
  | succ m ih =>
    intro X h0 h1
    unfold plansFrom
    rw [List.length_flatMap]
    have key : ∀ L : List Nat, (L.map fun (h : Nat) => (plansFrom T [] m (X ++ [(h : Int)])).length).sum = L.length * T ^ m := by
      intro L
      induction L with
      | nil => simp
      | cons a L ihL =>
        simp only [List.map_cons, List.sum_cons, List.length_cons]
        rw [ihL, ih (snoc_zero h0 h1).2 (snoc_zero h0 h1).1, Nat.add_mul, Nat.one_mul, Nat.add_comm]
    rw [key, List.length_range, Nat.pow_succ, Nat.mul_comm]

theorem free_head {T m : Nat} (hT : 1 ≤ T) : ∀ {X : List Int}, 0 < X.length → hr X 0 = 0 → (plansFrom T [] m X).head? = some (X ++ List.replicate m 0) := by
  induction m with
  | zero =>
    intro X h0 h1
    unfold plansFrom
    rw [if_pos (okPlan_nil h1)]
    simp
  | succ m ih =>
    intro X h0 h1
    unfold plansFrom
    obtain ⟨k, rfl⟩ : ∃ k, T = k + 1 := ⟨T - 1, by omega⟩
    rw [List.range_succ_eq_map, List.flatMap_cons, List.head?_append, ih (snoc_zero h0 h1).2 (snoc_zero h0 h1).1]
    simp [List.replicate_succ]

theorem free_plans {T N : Nat} (hT : 1 ≤ T) : (plans T (N + 1) []).length = T ^ N ∧ (plans T (N + 1) []).head? = some (List.replicate (N + 1) 0) := by
  unfold plans
  rw [plans_zero hT]
  refine ⟨free_len (by simp) rfl, ?_⟩
  rw [free_head hT (by simp) rfl]
  rfl

/-- More than can be counted. -/
theorem runV_over {T : Int} {l : List Sp} : ∀ (L : List (List Int)) (s : Best), 0 ≤ s.many → s.many ≤ 1000000 → 1000000 < s.many + L.length → (runV (bestStep T l) L s).1 = true := by
  intro L
  induction L with
  | nil => intro s h0 h1 h2; simp at h2; omega
  | cons X L ih =>
    intro s h0 h1 h2
    have hw : wrap64 (s.many + 1) = s.many + 1 := wrap64_small (by omega) (by omega)
    simp only [runV]
    have hm : (bestStep T l s X).2.many = s.many + 1 := by
      unfold bestStep
      rw [hw]
      dsimp only
      split <;> rfl
    by_cases hf : (bestStep T l s X).1 = true
    · rw [if_pos hf]; exact hf
    · rw [if_neg hf]
      have hle : s.many + 1 ≤ 1000000 := by
        unfold bestStep at hf
        rw [hw] at hf
        simp at hf
        omega
      refine ih _ (by rw [hm]; omega) (by rw [hm]; exact hle) ?_
      rw [hm]
      simp only [List.length_cons, Int.natCast_add, Int.natCast_one] at h2
      omega

/-- Without spans the first plan stays the best. -/
theorem runV_free {T : Int} : ∀ (L : List (List Int)) (s : Best), 0 ≤ s.many → s.many + L.length ≤ 1000000 → s.best ≠ none → s.least = 0 → runV (bestStep T []) L s = (false, ⟨s.best, 0, s.many + L.length⟩) := by
  intro L
  induction L with
  | nil => intro s h0 h1 h2 h3; obtain ⟨b, z, m⟩ := s; dsimp only at h3; subst h3; simp [runV]
  | cons X L ih =>
    intro s h0 h1 h2 h3
    simp only [List.length_cons, Int.natCast_add, Int.natCast_one] at h1
    have hw : wrap64 (s.many + 1) = s.many + 1 := wrap64_small (by omega) (by omega)
    have hs : bestStep T [] s X = (false, ⟨s.best, s.least, s.many + 1⟩) := by
      unfold bestStep
      rw [hw, if_neg (by rintro (h | h); exact h2 h; rw [h3] at h; simp [sumSl] at h)]
      simp
      omega
    simp only [runV, hs, Bool.false_eq_true, if_false]
    rw [ih ⟨s.best, s.least, s.many + 1⟩ (by dsimp only; omega) (by dsimp only; omega) h2 h3]
    dsimp only
    simp only [List.length_cons, Int.natCast_add, Int.natCast_one]
    rw [show s.many + 1 + (L.length : Int) = s.many + ((L.length : Int) + 1) by omega]

theorem span_free {T : Nat} (h1 : 1 ≤ T) (h2 : T ≤ 24) : spansE (T : Int) (6 : Nat) [] = 0 := by
  unfold spansE
  rw [if_neg (by omega), if_neg (by simp), if_neg (by simp)]

theorem plan_free {T : Nat} (h1 : 1 ≤ T) (h2 : T ≤ 24) : planE (T : Int) 6 [] = ([0, 0, 0, 0, 0, 0], 0) := by
  have := planE_ok (span_free h1 h2)
  rw [(free_plans (N := 5) h1).2] at this
  exact this

theorem many_free {T : Nat} (h1 : 16 ≤ T) (h2 : T ≤ 24) : plansE (T : Int) 6 [] = (0, 8) ∧ shortE (T : Int) 6 [] = ([], 0, 8) := by
  have hs := span_free (T := T) (by omega) h2
  have hl := (free_plans (T := T) (N := 5) (by omega)).1
  have hp : 16 ^ 5 ≤ T ^ 5 := Nat.pow_le_pow_left h1 5
  have h16 : (16 : Nat) ^ 5 = 1048576 := rfl
  constructor
  · have e : plansE (T : Int) (6 : Nat) [] = (0, 8) := by
      unfold plansE
      rw [if_neg (by simpa using hs), Int.toNat_natCast, Int.toNat_natCast, if_pos (by rw [hl]; omega)]
    exact e
  · have e : shortE (T : Int) (6 : Nat) [] = ([], 0, 8) := by
      unfold shortE
      rw [if_neg (by simpa using hs), Int.toNat_natCast, Int.toNat_natCast, if_pos (runV_over _ _ (by simp) (by simp) (by rw [hl]; dsimp only; omega))]
    exact e

theorem few_free {T : Nat} (h1 : 1 ≤ T) (h2 : T ≤ 15) : plansE (T : Int) 6 [] = (((T ^ 5 : Nat) : Int), 0) ∧ shortE (T : Int) 6 [] = ([0, 0, 0, 0, 0, 0], 0, 0) := by
  have hs := span_free (T := T) h1 (by omega)
  have hl := (free_plans (T := T) (N := 5) h1).1
  have hh := (free_plans (T := T) (N := 5) h1).2
  have hp : T ^ 5 ≤ 15 ^ 5 := Nat.pow_le_pow_left h2 5
  have h15 : (15 : Nat) ^ 5 = 759375 := rfl
  constructor
  · have e := plansE_few hs (by rw [hl]; omega)
    rw [hl] at e
    exact e
  · obtain ⟨X, L, hL⟩ : ∃ X L, plans T 6 [] = X :: L := by
      cases h : plans T 6 [] with
      | nil => rw [h] at hh; cases hh
      | cons X L => exact ⟨X, L, rfl⟩
    rw [hL] at hh hl
    obtain rfl : X = [0, 0, 0, 0, 0, 0] := by simpa [List.replicate] using hh
    simp only [List.length_cons] at hl
    have hstep : bestStep (T : Int) [] ⟨none, 0, 0⟩ [0, 0, 0, 0, 0, 0] = (false, ⟨some [0, 0, 0, 0, 0, 0], 0, 1⟩) := by
      unfold bestStep
      rw [if_pos (.inl rfl), show wrap64 ((0 : Int) + 1) = 1 by unfold wrap64; rfl]
      rfl
    have hr : runV (bestStep (T : Int) []) (plans T 6 []) ⟨none, 0, 0⟩ = (false, ⟨some [0, 0, 0, 0, 0, 0], 0, 1 + L.length⟩) := by
      rw [hL]
      simp only [runV, hstep, Bool.false_eq_true, if_false]
      exact runV_free L _ (by simp) (by dsimp only; omega) (by simp) rfl
    have e : shortE (T : Int) (6 : Nat) [] = ([0, 0, 0, 0, 0, 0], 0, 0) := by
      unfold shortE
      rw [if_neg (by simpa using hs), Int.toNat_natCast, Int.toNat_natCast, hr]
      rfl
    exact e
end Go.Proofs.Ytgamekcjjpjnnaa
