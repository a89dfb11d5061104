/- What the reference finds of the plans, as a fold; beside what the visitor of Shortest keeps. Plain facts. -/
import Derived.Test.YtgamekcjjpjnnaaM7
import Derived.Test.YtgamekcjjpjnnaaM13
set_option linter.unusedVariables false
namespace Go.Proofs.Ytgamekcjjpjnnaa
open Go.RowKit

def refStep (T : Int) (l : List Sp) (s : Best) (X : List Int) : Best := if s.many + 1 = 1 ∨ sumSl T l X < s.least then ⟨some X, sumSl T l X, s.many + 1⟩ else ⟨s.best, s.least, s.many + 1⟩

theorem refStep_many (T : Int) (l : List Sp) (s : Best) (X : List Int) : (refStep T l s X).many = s.many + 1 := by unfold refStep; split <;> rfl
theorem fold_many {T : Int} {l : List Sp} : ∀ (L : List (List Int)) (s : Best), (L.foldl (refStep T l) s).many = s.many + L.length := by
  intro L
  induction L with
  | nil => intro s; simp
  | cons X L ih => intro s; rw [List.foldl_cons, ih, refStep_many, List.length_cons]; omega

theorem fold_runV {T : Int} {l : List Sp} : ∀ (L : List (List Int)) (s : Best), 0 ≤ s.many → s.many + L.length ≤ 1000000 → (s.best = none ↔ s.many = 0) → runV (bestStep T l) L s = (false, L.foldl (refStep T l) s) := by
  intro L
  induction L with
  | nil => intro s _ _ _; rfl
  | cons X L ih =>
    intro s h0 h1 h2
    rw [List.length_cons] at h1
    have hw : wrap64 (s.many + 1) = s.many + 1 := wrap64_small (by omega) (by omega)
    have e : bestStep T l s X = (false, refStep T l s X) := by
      unfold bestStep refStep
      rw [hw]
      have hd : decide (1000000 < s.many + 1) = false := by rw [decide_eq_false_iff_not]; omega
      rw [hd]
      by_cases h : s.best = none ∨ sumSl T l X < s.least
      · rw [if_pos h, if_pos (h.imp (fun h => by have := h2.1 h; omega) id)]
      · rw [if_neg h, if_neg (fun h' => h (h'.imp (fun h => h2.2 (by omega)) id))]
    have hm := refStep_many T l s X
    simp only [runV, e, Bool.false_eq_true, if_false, List.foldl_cons]
    refine ih _ (by omega) (by omega) ⟨fun h => ?_, fun h => by omega⟩
    exfalso
    unfold refStep at h
    by_cases hc : s.many + 1 = 1 ∨ sumSl T l X < s.least
    · rw [if_pos hc] at h; cases h
    · rw [if_neg hc] at h
      have := h2.1 h
      omega

theorem shortE_fold {T N : Nat} {l : List Sp} (h : spansE (T : Int) (N : Int) l = 0) (hm : (plans T N l).length ≤ 1000000) :
    shortE (T : Int) (N : Int) l = match ((plans T N l).foldl (refStep T l) ⟨none, 0, 0⟩).best with
      | none => ([], 0, 10)
      | some X => (X, ((plans T N l).foldl (refStep T l) ⟨none, 0, 0⟩).least, 0) := by
  have e := fold_runV (T := (T : Int)) (l := l) (plans T N l) ⟨none, 0, 0⟩ (by simp) (by dsimp only; omega) (by simp)
  unfold shortE
  rw [if_neg (by simpa using h), Int.toNat_natCast, Int.toNat_natCast, e]
  rfl

theorem fold_none {T : Int} {l : List Sp} : ∀ (L : List (List Int)) (s : Best), 0 ≤ s.many → (s.best = none ↔ s.many = 0) → ((L.foldl (refStep T l) s).best = none ↔ (L.foldl (refStep T l) s).many = 0) := by
  intro L
  induction L with
  | nil => intro s _ h; exact h
  | cons X L ih =>
    intro s h0 h2
    have hm := refStep_many T l s X
    rw [List.foldl_cons]
    refine ih _ (by omega) ⟨fun h => ?_, fun h => by omega⟩
    exfalso
    unfold refStep at h
    by_cases hc : s.many + 1 = 1 ∨ sumSl T l X < s.least
    · rw [if_pos hc] at h; cases h
    · rw [if_neg hc] at h
      have := h2.1 h
      omega
end Go.Proofs.Ytgamekcjjpjnnaa
