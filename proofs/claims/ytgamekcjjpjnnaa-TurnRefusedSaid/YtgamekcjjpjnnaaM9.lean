/- Rounds along a ring: the sum is a multiple of the round, between the least and the greatest sum. Plain facts. -/
import Derived.Test.YtgamekcjjpjnnaaA27
set_option linter.unusedVariables false
namespace Go.Proofs.Ytgamekcjjpjnnaa
open Go.RowKit

theorem kSp_raw (l : List Sp) (k : Int) : kSp l k = if 0 < k then rawSp l k else ⟨(rawSp l k).dst, (rawSp l k).src, -(rawSp l k).hi, -(rawSp l k).lo⟩ := rfl

theorem slackV_mod (T : Int) (s : Sp) (X : List Int) : ∃ q, s.lo + slackV T s X = hr X s.dst.toNat - hr X s.src.toNat + T * q := by
  unfold slackV
  have e := Int.emod_add_mul_ediv (hr X s.dst.toNat - hr X s.src.toNat - s.lo) T
  refine ⟨-((hr X s.dst.toNat - hr X s.src.toNat - s.lo) / T), ?_⟩
  rw [Int.mul_neg]
  omega

theorem term_mod (T : Int) (l : List Sp) (X : List Int) (k : Int) : ∃ q, termV T l X k = hr X (kSp l k).dst.toNat - hr X (kSp l k).src.toNat + T * q := by
  obtain ⟨q, hq⟩ := slackV_mod T (rawSp l k) X
  unfold termV
  rw [kSp_raw]
  by_cases h : 0 < k
  · rw [if_pos h, if_pos h]
    exact ⟨q, hq⟩
  · rw [if_neg h, if_neg h]
    refine ⟨-q, ?_⟩
    dsimp only
    rw [Int.mul_neg]
    omega

theorem term_between {T N : Int} {l : List Sp} {X : List Int} (hv : Valid T N l) (hp : planP T N l X) {k : Int} (hk : kOk l k) : (kSp l k).lo ≤ termV T l X k ∧ termV T l X k ≤ (kSp l k).hi := by
  have hm := raw_ok hv hk
  have h1 := hp.2.2 _ hm
  have h2 := slackV_bounds hv.t1 (rawSp l k) X
  unfold termV
  rw [kSp_raw]
  by_cases h : 0 < k
  · rw [if_pos h, if_pos h]; omega
  · rw [if_neg h, if_neg h]; dsimp only; omega

theorem sum_mod {T : Int} {l : List Sp} {X R : List Int} : ∀ m, Chain l R (m + 1) → ∃ q, sumT T l X R (m + 1) = hr X (kSp l (hr R m)).dst.toNat - hr X (kSp l (hr R 0)).src.toNat + T * q := by
  intro m
  induction m with
  | zero =>
    intro h
    obtain ⟨q, hq⟩ := term_mod T l X (hr R 0)
    exact ⟨q, by simp only [sumT]; omega⟩
  | succ m ih =>
    intro h
    obtain ⟨q, hq⟩ := ih (h.mono (by omega))
    obtain ⟨q2, hq2⟩ := term_mod T l X (hr R (m + 1))
    have hn := h.next m (by omega)
    rw [← hn] at hq2
    refine ⟨q + q2, ?_⟩
    rw [sumT, hq, hq2, Int.mul_add]
    omega

theorem sum_between {T N : Int} {l : List Sp} {X R : List Int} (hv : Valid T N l) (hp : planP T N l X) : ∀ m, (∀ i, i < m → kOk l (hr R i)) → sumLo l R m ≤ sumT T l X R m ∧ sumT T l X R m ≤ sumHi l R m := by
  intro m
  induction m with
  | zero => intro _; simp [sumLo, sumHi, sumT]
  | succ m ih =>
    intro h
    have h1 := ih (fun i hi => h i (by omega))
    have h2 := term_between hv hp (h m (by omega))
    simp only [sumLo, sumHi, sumT]
    omega

/-- A whole number of rounds. -/
theorem rounds_whole {T N : Nat} {l : List Sp} {X R : List Int} (hv : Valid T N l) (hp : planP T N l X) (hr' : isRing N l R) :
    ∃ q : Int, sumT T l X R R.length = T * q ∧ (sumT T l X R R.length).tdiv T = q ∧ -(-(sumLo l R R.length) / (T : Int)) ≤ q ∧ q ≤ sumHi l R R.length / (T : Int) ∧ -4200 ≤ q ∧ q ≤ 4200 := by
  obtain ⟨h2, hN, hch, hcl⟩ := hr'
  have ht1 := hv.t1; have hn2 := hv.n2
  obtain ⟨m, hm⟩ : ∃ m, R.length = m + 1 := ⟨R.length - 1, by omega⟩
  rw [hm] at hch hcl
  obtain ⟨q, hq⟩ := sum_mod (T := (T : Int)) (X := X) m hch
  rw [Nat.add_sub_cancel] at hcl
  rw [hcl] at hq
  have hq' : sumT T l X R (m + 1) = T * q := by omega
  have hb := sum_between (R := R) hv hp (m + 1) hch.ok
  have hbb := sumT_bounds (X := X) hv (R := R) (m := m + 1) hch.ok
  rw [hm]
  have hpos : (0 : Int) < T := by omega
  refine ⟨q, hq', by rw [hq', Int.mul_tdiv_cancel_left _ (by omega)], ?_, ?_, ?_, ?_⟩
  · have : -q ≤ -(sumLo l R (m + 1)) / (T : Int) := by
      rw [Int.le_ediv_iff_mul_le hpos]
      rw [Int.neg_mul, Int.mul_comm]
      omega
    omega
  · rw [Int.le_ediv_iff_mul_le hpos, Int.mul_comm]
    omega
  · have h1 : (-4200 : Int) ≤ T * q := by omega
    by_cases hneg : q < -4200
    · have : (T : Int) * q ≤ 1 * q := Int.mul_le_mul_of_nonpos_right (by omega) (by omega)
      omega
    · omega
  · have h1 : (T : Int) * q ≤ 4200 := by omega
    by_cases hneg : 4200 < q
    · have : 1 * q ≤ (T : Int) * q := Int.mul_le_mul_of_nonneg_right (by omega) (by omega)
      omega
    · omega
end Go.Proofs.Ytgamekcjjpjnnaa
