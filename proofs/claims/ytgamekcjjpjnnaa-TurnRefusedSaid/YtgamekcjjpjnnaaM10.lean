/- Hours that are all moved by the same number: the slacks stay. Plain facts. -/
import Derived.Test.YtgamekcjjpjnnaaM7
set_option linter.unusedVariables false
namespace Go.Proofs.Ytgamekcjjpjnnaa

/-- All hours so much later. -/
def moveX (T c : Int) (X : List Int) : List Int := X.map fun x => (x + c) % T

theorem moveX_hr {T c : Int} {X : List Int} {i : Nat} (h : i < X.length) : hr (moveX T c X) i = (hr X i + c) % T := by
  rw [← hr_get (show i < (moveX T c X).length by simpa [moveX] using h), ← hr_get h]
  simp [moveX]

theorem moveX_slack {T c : Int} {s : Sp} {X : List Int} (h1 : s.src.toNat < X.length) (h2 : s.dst.toNat < X.length) : slackV T s (moveX T c X) = slackV T s X := by
  unfold slackV
  rw [moveX_hr h1, moveX_hr h2]
  have e1 := Int.emod_add_mul_ediv (hr X s.dst.toNat + c) T
  have e2 := Int.emod_add_mul_ediv (hr X s.src.toNat + c) T
  rw [show (hr X s.dst.toNat + c) % T - (hr X s.src.toNat + c) % T - s.lo = (hr X s.dst.toNat - hr X s.src.toNat - s.lo) + T * ((hr X s.src.toNat + c) / T - (hr X s.dst.toNat + c) / T) by rw [Int.mul_sub]; omega, Int.add_mul_emod_self_left]

theorem moveX_in {T N c : Int} {X : List Int} (hT : 1 ≤ T) (h : inHours T N X) : inHours T N (moveX T c X) :=
  ⟨by simp [moveX, h.1], fun x hx => by
    unfold moveX at hx
    obtain ⟨y, _, rfl⟩ := List.mem_map.1 hx
    exact ⟨Int.emod_nonneg _ (by omega), Int.emod_lt_of_pos _ (by omega)⟩⟩

theorem moveX_plan {T N : Int} {l : List Sp} {X : List Int} (hv : Valid T N l) (h : inHours T N X) : planP T N l (moveX T (T - hr X 0) X) ↔ ∀ s ∈ l, slackV T s X ≤ s.hi - s.lo := by
  have hn := hv.n1
  have hl := h.1
  have key : ∀ s ∈ l, slackV T s (moveX T (T - hr X 0) X) = slackV T s X := fun s hs => by
    have := hv.ok s hs
    exact moveX_slack (by omega) (by omega)
  unfold planP
  constructor
  · rintro ⟨_, _, h3⟩ s hs
    rw [← key s hs]
    exact h3 s hs
  · intro h3
    refine ⟨moveX_in hv.t1 h, ?_, fun s hs => by rw [key s hs]; exact h3 s hs⟩
    rw [moveX_hr (by omega), show hr X 0 + (T - hr X 0) = T by omega, Int.emod_self]

theorem moveX_slacks {T N c : Int} {l : List Sp} {X : List Int} (hv : Valid T N l) (h : inHours T N X) : (l.map fun s => slackV T s (moveX T c X)) = l.map fun s => slackV T s X := by
  have hl := h.1
  refine List.map_congr_left fun s hs => ?_
  have := hv.ok s hs
  exact moveX_slack (by omega) (by omega)

theorem plan_some {T N : Nat} {l : List Sp} {X : List Int} (h : spansE (T : Int) (N : Int) l = 0) (hp : planP T N l X) : (planE (T : Int) (N : Int) l).2 = 0 := by
  have hm := plans_mem.2 hp
  rw [planE_ok h]
  cases hl : plans T N l with
  | nil => rw [hl] at hm; cases hm
  | cons Y L => rfl
theorem plan_len (t n : Int) (l : List Sp) : (planE t n l).1.length ≤ 1000 := by
  by_cases h : spansE t n l = 0
  · have hv := valid_of h
    obtain ⟨T, rfl⟩ : ∃ T : Nat, t = T := ⟨t.toNat, by have := hv.t1; omega⟩
    obtain ⟨N, rfl⟩ : ∃ N : Nat, n = N := ⟨n.toNat, by have := hv.n1; omega⟩
    rw [planE_ok h]
    cases hl : plans T N l with
    | nil => simp
    | cons Y L =>
      have hY := plans_mem.1 (show Y ∈ plans T N l by rw [hl]; simp)
      have := hY.1.1
      have := hv.n2
      simp
      omega
  · rw [planE_err h]; simp
end Go.Proofs.Ytgamekcjjpjnnaa
