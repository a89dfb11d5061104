/- The list of all plans: what is in it, how long it is, which is the best. Plain facts. -/
import Derived.Test.YtgamekcjjpjnnaaA31
set_option linter.unusedVariables false
namespace Go.Proofs.Ytgamekcjjpjnnaa
open Go.RowKit

theorem plans_mem {T N : Nat} {l : List Sp} {X : List Int} : X ∈ plans T N l ↔ planP (T : Int) (N : Int) l X := by
  unfold planP
  constructor
  · intro h
    obtain ⟨h1, h2, h3, _⟩ := mem_plansFrom (X := []) (fun i hi => by simp at hi) h
    simp at h1
    unfold okPlan at h3
    rw [decide_eq_true_eq] at h3
    exact ⟨inHours_of h1 h2, h3⟩
  · rintro ⟨h1, h2, h3⟩
    have hl : X.length = N := by have := h1.1; omega
    refine mem_plansFrom_of (X := []) (by simp [hl]) (fun i hi => inHours_hr h1 hi) ?_ (fun i hi => by simp at hi)
    unfold okPlan
    rw [decide_eq_true_eq]
    exact ⟨h2, h3⟩

theorem plansFrom_len {T : Nat} {l : List Sp} {m : Nat} : ∀ {X : List Int}, (plansFrom T l m X).length ≤ T ^ m := by
  induction m with
  | zero =>
    intro X
    unfold plansFrom
    split <;> simp
  | succ m ih =>
    intro X
    unfold plansFrom
    rw [List.length_flatMap]
    have : ((List.range T).map fun (h : Nat) => (plansFrom T l m (X ++ [(h : Int)])).length).sum ≤ T * T ^ m := by
      have key : ∀ L : List Nat, (L.map fun (h : Nat) => (plansFrom T l m (X ++ [(h : Int)])).length).sum ≤ L.length * T ^ m := by
        intro L
        induction L with
        | nil => simp
        | cons a L ihL =>
          simp only [List.map_cons, List.sum_cons, List.length_cons]
          have := ih (X := X ++ [(a : Int)])
          rw [Nat.add_mul, Nat.one_mul]
          omega
      have := key (List.range T)
      simpa using this
    rw [Nat.pow_succ, Nat.mul_comm]
    exact this

theorem plans_len {T N : Nat} {l : List Sp} (hT : 1 ≤ T) (hN : 1 ≤ N) : (plans T N l).length ≤ T ^ (N - 1) := by
  obtain ⟨m, rfl⟩ : ∃ m, N = m + 1 := ⟨N - 1, by omega⟩
  unfold plans
  rw [plans_zero hT]
  exact plansFrom_len

/-- The best of some plans, many of them before. -/
theorem runV_best {T : Int} {l : List Sp} : ∀ (L : List (List Int)) (s : Best), 0 ≤ s.many → s.many + L.length ≤ 1000000 →
    ∃ b z, runV (bestStep T l) L s = (false, ⟨b, z, s.many + L.length⟩) ∧ (L = [] → b = s.best ∧ z = s.least) ∧
      ((s.best = none → b = none → L = []) ∧ (∀ X, b = some X → (s.best = some X ∧ z = s.least) ∨ (X ∈ L ∧ z = sumSl T l X)) ∧ (b ≠ none → (s.best ≠ none → z ≤ s.least) ∧ ∀ X ∈ L, z ≤ sumSl T l X) ∧ (s.best ≠ none → b ≠ none)) := by
  intro L
  induction L with
  | nil =>
    intro s h0 h1
    exact ⟨s.best, s.least, by simp [runV], fun _ => ⟨rfl, rfl⟩, fun _ _ => rfl, fun X hX => .inl ⟨hX, rfl⟩, fun _ => ⟨fun _ => Int.le_refl _, fun X hX => by simp at hX⟩, fun h => h⟩
  | cons X L ih =>
    intro s h0 h1
    simp only [List.length_cons, Int.natCast_add, Int.natCast_one] at h1
    have hw : wrap64 (s.many + 1) = s.many + 1 := wrap64_small (by omega) (by omega)
    have hf : (bestStep T l s X).1 = false := by
      unfold bestStep
      rw [hw]
      simp
      omega
    simp only [runV, hf]
    by_cases hup : s.best = none ∨ sumSl T l X < s.least
    · have hs : (bestStep T l s X).2 = ⟨some X, sumSl T l X, s.many + 1⟩ := by unfold bestStep; rw [hw, if_pos hup]
      rw [hs]
      obtain ⟨b, z, e1, e2, e3, e4, e5, e6⟩ := ih ⟨some X, sumSl T l X, s.many + 1⟩ (by dsimp only; omega) (by dsimp only; omega)
      dsimp only at e1 e2 e3 e4 e5 e6
      refine ⟨b, z, by simp only [Bool.false_eq_true, if_false]; rw [e1]; simp only [List.length_cons, Int.natCast_add, Int.natCast_one]; rw [show s.many + 1 + (L.length : Int) = s.many + ((L.length : Int) + 1) by omega], fun h => by simp at h, fun _ hb => absurd hb (e6 (by simp)), fun Y hY => ?_, fun hb => ?_, fun _ => e6 (by simp)⟩
      · rcases e4 Y hY with ⟨h, h'⟩ | ⟨h, h'⟩
        · cases h; exact .inr ⟨by simp, h'⟩
        · exact .inr ⟨by simp [h], h'⟩
      · obtain ⟨f1, f2⟩ := e5 hb
        have f1' := f1 (by simp)
        refine ⟨fun hs => ?_, fun Y hY => ?_⟩
        · rcases hup with h | h
          · exact absurd h hs
          · omega
        · rcases List.mem_cons.1 hY with rfl | h
          · exact f1'
          · exact f2 Y h
    · have hs : (bestStep T l s X).2 = ⟨s.best, s.least, s.many + 1⟩ := by unfold bestStep; rw [hw, if_neg hup]
      rw [hs]
      have hsb : s.best ≠ none := fun h => hup (.inl h)
      have hsl : s.least ≤ sumSl T l X := Int.not_lt.1 fun h => hup (.inr h)
      obtain ⟨b, z, e1, e2, e3, e4, e5, e6⟩ := ih ⟨s.best, s.least, s.many + 1⟩ (by dsimp only; omega) (by dsimp only; omega)
      dsimp only at e1 e2 e3 e4 e5 e6
      refine ⟨b, z, by simp only [Bool.false_eq_true, if_false]; rw [e1]; simp only [List.length_cons, Int.natCast_add, Int.natCast_one]; rw [show s.many + 1 + (L.length : Int) = s.many + ((L.length : Int) + 1) by omega], fun h => by simp at h, fun h _ => absurd h hsb, fun Y hY => ?_, fun hb => ?_, e6⟩
      · rcases e4 Y hY with h | ⟨h, h'⟩
        · exact .inl h
        · exact .inr ⟨by simp [h], h'⟩
      · obtain ⟨f1, f2⟩ := e5 hb
        have f1' := f1 hsb
        refine ⟨f1, fun Y hY => ?_⟩
        rcases List.mem_cons.1 hY with rfl | h
        · omega
        · exact f2 Y h

/-- What Shortest answers, of few plans. -/
theorem shortE_few {T N : Nat} {l : List Sp} (h : spansE (T : Int) (N : Int) l = 0) (hm : (plans T N l).length ≤ 1000000) :
    (plans T N l = [] ∧ shortE (T : Int) (N : Int) l = ([], 0, 10)) ∨ ∃ X, X ∈ plans T N l ∧ shortE (T : Int) (N : Int) l = (X, sumSl T l X, 0) ∧ ∀ Y ∈ plans T N l, sumSl T l X ≤ sumSl T l Y := by
  obtain ⟨b, z, e1, e2, e3, e4, e5, e6⟩ := runV_best (T := (T : Int)) (l := l) (plans T N l) ⟨none, 0, 0⟩ (by simp) (by dsimp only; omega)
  have hE : shortE (T : Int) (N : Int) l = if (runV (bestStep T l) (plans T N l) ⟨none, 0, 0⟩).1 = true then (([] : List Int), (0 : Int), (8 : Int)) else match (runV (bestStep T l) (plans T N l) ⟨none, 0, 0⟩).2.best with
      | none => ([], 0, 10)
      | some X => (X, (runV (bestStep T l) (plans T N l) ⟨none, 0, 0⟩).2.least, 0) := by
    unfold shortE
    rw [if_neg (by simpa using h), Int.toNat_natCast, Int.toNat_natCast]
    rfl
  rw [e1] at hE
  simp only [Bool.false_eq_true, if_false] at hE
  cases b with
  | none => exact .inl ⟨e3 rfl rfl, hE⟩
  | some X =>
    rcases e4 X rfl with ⟨h1, _⟩ | ⟨h1, h2⟩
    · cases h1
    · subst h2
      exact .inr ⟨X, h1, hE, (e5 (by simp)).2⟩

theorem planE_ok {T N : Nat} {l : List Sp} (h : spansE (T : Int) (N : Int) l = 0) : planE (T : Int) (N : Int) l = match (plans T N l).head? with | none => ([], 10) | some X => (X, 0) := by
  unfold planE
  rw [if_neg (by simpa using h), Int.toNat_natCast, Int.toNat_natCast]
  rfl
theorem planE_err {t n : Int} {l : List Sp} (h : spansE t n l ≠ 0) : planE t n l = ([], spansE t n l) := by unfold planE; rw [if_pos h]
theorem plansE_err {t n : Int} {l : List Sp} (h : spansE t n l ≠ 0) : plansE t n l = (0, spansE t n l) := by unfold plansE; rw [if_pos h]
theorem plansE_few {T N : Nat} {l : List Sp} (h : spansE (T : Int) (N : Int) l = 0) (hm : (plans T N l).length ≤ 1000000) : plansE (T : Int) (N : Int) l = ((((plans T N l).length : Nat) : Int), 0) := by
  unfold plansE
  rw [if_neg (by simpa using h), Int.toNat_natCast, Int.toNat_natCast, if_neg (by omega)]
end Go.Proofs.Ytgamekcjjpjnnaa
