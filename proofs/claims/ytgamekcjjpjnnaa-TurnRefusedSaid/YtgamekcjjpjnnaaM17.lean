/- A ring that refuses leaves no plan; no more spans than are needed leave one; one more span leaves one unless a ring refuses. Plain facts. -/
import Derived.Test.YtgamekcjjpjnnaaM16
import Derived.Test.YtgamekcjjpjnnaaA21
set_option linter.unusedVariables false
namespace Go.Proofs.Ytgamekcjjpjnnaa
open Go.RowKit

theorem refuse_none {T N : Nat} {l : List Sp} {R : List Int} (hv : Valid T N l) (h1 : isRing N l R) (h2 : refusing T l R) : plans T N l = [] := by
  rw [List.eq_nil_iff_forall_not_mem]
  intro X hX
  have hp := plans_mem.1 hX
  obtain ⟨q, hq, _⟩ := rounds_whole hv hp h1
  have hb := sum_between (R := R) hv hp R.length h1.2.2.1.ok
  rw [hq, sumLo_all, sumHi_all] at hb
  unfold refusing at h2
  have ht := hv.t1
  have e : -(loS l R) % (T : Int) = (T * q - loS l R) % (T : Int) := by
    rw [show (T : Int) * q - loS l R = -(loS l R) + T * q by omega, Int.add_mul_emod_self_left]
  have h3 : ((T : Int) * q - loS l R) % (T : Int) ≤ T * q - loS l R := by
    have a1 := Int.emod_add_mul_ediv ((T : Int) * q - loS l R) (T : Int)
    have a2 : 0 ≤ ((T : Int) * q - loS l R) / (T : Int) := Int.ediv_nonneg (by omega) (by omega)
    have a3 : 0 ≤ (T : Int) * (((T : Int) * q - loS l R) / (T : Int)) := Int.mul_nonneg (by omega) a2
    omega
  omega

theorem plan_of {T N : Nat} {l : List Sp} (hv : Valid T N l) (X : Nat → Int) (h : ∀ s ∈ l, ∃ d q : Int, s.lo ≤ d ∧ d ≤ s.hi ∧ X s.dst.toNat - X s.src.toNat = d + T * q) : plans T N l ≠ [] := by
  have ht := hv.t1; have hn := hv.n1
  have hT : (T : Int) ≠ 0 := by omega
  obtain ⟨Y, hY⟩ : ∃ Y, ((List.range N).map fun i => (X i - X 0) % (T : Int)) = Y := ⟨_, rfl⟩
  have hYl : Y.length = N := by rw [← hY]; simp
  have hYi : ∀ i, i < N → hr Y i = (X i - X 0) % (T : Int) := fun i hi => by
    rw [hr_lt (by omega)]
    simp only [← hY]
    simp
  have hmem : Y ∈ plans T N l := by
    rw [plans_mem]
    refine ⟨⟨by omega, fun x hx => ?_⟩, ?_, fun s hs => ?_⟩
    · rw [← hY] at hx
      obtain ⟨i, _, rfl⟩ := List.mem_map.1 hx
      exact ⟨Int.emod_nonneg _ hT, Int.emod_lt_of_pos _ (by omega)⟩
    · rw [hYi 0 (by omega), Int.sub_self, Int.zero_emod]
    · obtain ⟨o1, o2, o3, o4, o5, o6, o7, o8, o9⟩ := hv.ok s hs
      obtain ⟨d, q, h1, h2, h3⟩ := h s hs
      unfold slackV
      rw [hYi _ (by omega), hYi _ (by omega)]
      have a1 := Int.emod_add_mul_ediv (X s.dst.toNat - X 0) (T : Int)
      have a2 := Int.emod_add_mul_ediv (X s.src.toNat - X 0) (T : Int)
      have e : (X s.dst.toNat - X 0) % (T : Int) - (X s.src.toNat - X 0) % (T : Int) - s.lo = (d - s.lo) + T * (q - (X s.dst.toNat - X 0) / (T : Int) + (X s.src.toNat - X 0) / (T : Int)) := by
        rw [Int.mul_add, Int.mul_sub]
        omega
      rw [e, Int.add_mul_emod_self_left, Int.emod_eq_of_lt (by omega) (by omega)]
      omega
  intro hnil
  rw [hnil] at hmem
  cases hmem

theorem kept_of {T N : Nat} {l : List Sp} {X : Nat → Int} (hX : Kept N l l.length X) {j : Nat} (hj : j < l.length) (hm : mg N l j) : ∃ d q : Int, l[j].lo ≤ d ∧ d ≤ l[j].hi ∧ X l[j].dst.toNat - X l[j].src.toNat = d + T * q := by
  have := hX j hj hm
  rw [getD_lt hj] at this
  exact ⟨_, 0, this.1, this.2, by simp⟩

theorem free_zero {T N : Nat} {l : List Sp} (hv : Valid T N l) (h : cnt N l l.length = 0) : plans T N l ≠ [] := by
  have hn := hv.n1
  obtain ⟨R, w⟩ := ways hv l.length (Nat.le_refl _) 0 0 (by omega) (by omega) rfl
  obtain ⟨X, hX, _⟩ := w.all (loS l R) (Int.le_refl _) (lo_le_hi hv (path_ok w.path))
  refine plan_of hv X fun s hs => ?_
  obtain ⟨j, hj, rfl⟩ := List.getElem_of_mem hs
  exact kept_of hX hj (cnt_zero _ h j hj)

theorem free_one {T N : Nat} {l : List Sp} (hv : Valid T N l) (h : cnt N l l.length = 1) (hno : ∀ R, isRing N l R → ¬ refusing T l R) : plans T N l ≠ [] := by
  have hn := hv.n1; have ht := hv.t1
  obtain ⟨e, he, hme, hall⟩ := cnt_one _ h
  obtain ⟨o1, o2, o3, o4, o5, o6, o7, o8, o9⟩ := hv.ok _ (List.getElem_mem he)
  have hsame := ends_same hv l.length (Nat.le_refl _) e he
  rw [getD_lt he] at hsame
  obtain ⟨s, hs⟩ : ∃ s, l[e] = s := ⟨_, rfl⟩
  rw [hs] at o1 o2 o3 o4 o5 o6 o7 o8 o9 hsame
  have hf : kSp l ((e : Int) + 1) = s := by
    unfold kSp
    rw [if_pos (by omega), show ((e : Int) + 1).natAbs - 1 = e by omega, getD_lt he, hs]
  obtain ⟨R, w⟩ := ways hv l.length (Nat.le_refl _) s.dst.toNat s.src.toNat (by omega) (by omega) hsame.symm
  have hR : 0 < R.length := by
    cases R with
    | nil => have := w.path; have h2 : ((s.dst.toNat : Nat) : Int) = (s.src.toNat : Nat) := this; omega
    | cons k R => simp
  have hp : Path l s.src (((e : Int) + 1) :: R) s.src := ⟨⟨by omega, by omega, by omega⟩, by rw [hf], by
    rw [hf]
    have := w.path
    rwa [show ((s.dst.toNat : Nat) : Int) = s.dst by omega, show ((s.src.toNat : Nat) : Int) = s.src by omega] at this⟩
  have hnd : (srcs' l (((e : Int) + 1) :: R)).Nodup := by
    show ((kSp l ((e : Int) + 1)).src :: srcs' l R).Nodup
    rw [hf, List.nodup_cons]
    refine ⟨?_, w.nodup⟩
    have := w.out
    rwa [show ((s.src.toNat : Nat) : Int) = s.src by omega] at this
  have hch := chain_of_path hp hnd
  have hring : isRing N l (((e : Int) + 1) :: R) := ring_iff.2 ⟨by simp; omega, by have := hch.few hv; omega, _, hp, hnd⟩
  have hnr := hno _ hring
  unfold refusing at hnr
  rw [loS_cons, hiS_cons, hf] at hnr
  have hle := lo_le_hi hv (path_ok w.path)
  -- a multiple of the round between the sums
  have b1 := Int.emod_nonneg (-(s.lo + loS l R)) (show (T : Int) ≠ 0 by omega)
  have b3 := Int.emod_add_mul_ediv (-(s.lo + loS l R)) (T : Int)
  obtain ⟨q, hq⟩ : ∃ q, -((-(s.lo + loS l R)) / (T : Int)) = q := ⟨_, rfl⟩
  have hq1 : s.lo + loS l R ≤ T * q := by
    rw [← hq, Int.mul_neg]; omega
  have hq2 : (T : Int) * q ≤ s.hi + hiS l R := by
    rw [← hq, Int.mul_neg]; omega
  obtain ⟨d, c, _, r1, r2, r3, r4, r5, r6, hdc⟩ := split3 (x := (T : Int) * q) o8 hle (Int.le_refl 0) (by omega) (by omega)
  obtain ⟨X, hX, hc⟩ := w.all c r3 r4
  refine plan_of hv X fun s' hs' => ?_
  obtain ⟨j, hj, rfl⟩ := List.getElem_of_mem hs'
  by_cases hje : j = e
  · subst hje
    refine ⟨d, -q, ?_, ?_, ?_⟩
    · rw [hs]; exact r1
    · rw [hs]; exact r2
    · rw [hs, Int.mul_neg]; omega
  · exact kept_of hX hj (hall j hj hje)

/-- What Refuses says, beside it. -/
theorem refP_iff {T N : Nat} {l : List Sp} {R : List Int} (h : spansE (T : Int) (N : Int) l = 0) : refP (T : Int) (N : Int) l R ↔ isRing N l R ∧ refusing T l R := by
  unfold refP refusing
  rw [Int.toNat_natCast, sumLo_all, sumHi_all]
  constructor
  · rintro ⟨_, h1, h2⟩; exact ⟨h1, by omega⟩
  · rintro ⟨h1, h2⟩; exact ⟨h, h1, by omega⟩

theorem planE_code {T N : Nat} {l : List Sp} (h : spansE (T : Int) (N : Int) l = 0) : (planE (T : Int) (N : Int) l).2 = if plans T N l = [] then 10 else 0 := by
  rw [planE_ok h]
  cases hp : plans T N l with
  | nil => rfl
  | cons X L => rfl
end Go.Proofs.Ytgamekcjjpjnnaa
