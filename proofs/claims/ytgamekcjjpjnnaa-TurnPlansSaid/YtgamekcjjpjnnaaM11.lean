/- Spans that are turned round: the same plans, the same rings. Plain facts. -/
import Derived.Test.YtgamekcjjpjnnaaM7
import Derived.Test.YtgamekcjjpjnnaaA21
set_option linter.unusedVariables false
namespace Go.Proofs.Ytgamekcjjpjnnaa

def oppS (s : Sp) : Sp := ⟨s.dst, s.src, -s.hi, -s.lo⟩
def opp (l : List Sp) : List Sp := l.map oppS
def negR (R : List Int) : List Int := R.map fun k => -k

theorem opp_slack {T : Int} {s : Sp} {X : List Int} (hT : 1 ≤ T) (h1 : s.lo ≤ s.hi) (h2 : s.hi ≤ s.lo + T - 1) : slackV T (oppS s) X ≤ (oppS s).hi - (oppS s).lo ↔ slackV T s X ≤ s.hi - s.lo := by
  have b1 := slackV_bounds hT s X
  have b2 := slackV_bounds hT (oppS s) X
  obtain ⟨q1, e1⟩ : ∃ q, slackV T s X = hr X s.dst.toNat - hr X s.src.toNat - s.lo + T * q := by
    unfold slackV
    have e := Int.emod_add_mul_ediv (hr X s.dst.toNat - hr X s.src.toNat - s.lo) T
    exact ⟨-((hr X s.dst.toNat - hr X s.src.toNat - s.lo) / T), by rw [Int.mul_neg]; omega⟩
  obtain ⟨q2, e2⟩ : ∃ q, slackV T (oppS s) X = hr X s.src.toNat - hr X s.dst.toNat + s.hi + T * q := by
    unfold slackV oppS
    dsimp only
    have e := Int.emod_add_mul_ediv (hr X s.src.toNat - hr X s.dst.toNat - -s.hi) T
    exact ⟨-((hr X s.src.toNat - hr X s.dst.toNat - -s.hi) / T), by rw [Int.mul_neg]; omega⟩
  have hsum : slackV T s X + slackV T (oppS s) X = s.hi - s.lo + T * (q1 + q2) := by rw [Int.mul_add]; omega
  obtain ⟨q, hq⟩ : ∃ q, q1 + q2 = q := ⟨_, rfl⟩
  rw [hq] at hsum
  have q0 : 0 ≤ q := by
    rcases Int.lt_or_le q 0 with h | h
    · have : T * q ≤ T * (-1) := Int.mul_le_mul_of_nonneg_left (by omega) (by omega)
      omega
    · exact h
  have q3 : q ≤ 1 := by
    rcases Int.lt_or_le 1 q with h | h
    · have : T * 2 ≤ T * q := Int.mul_le_mul_of_nonneg_left (by omega) (by omega)
      omega
    · exact h
  have hd : (oppS s).hi - (oppS s).lo = s.hi - s.lo := by unfold oppS; dsimp only; omega
  rw [hd]
  have : q = 0 ∨ q = 1 := by omega
  rcases this with rfl | rfl <;> omega

theorem opp_ok {T N : Nat} {l : List Sp} (hv : Valid T N l) (X : List Int) : okPlan T (opp l) X = okPlan T l X := by
  have ht := hv.t1
  unfold okPlan
  rw [decide_eq_decide]
  constructor
  · rintro ⟨h0, h⟩
    refine ⟨h0, fun s hs => ?_⟩
    have h1 := h (oppS s) (List.mem_map.2 ⟨s, hs, rfl⟩)
    have h2 := hv.ok s hs
    exact (opp_slack (X := X) ht (by omega) (by omega)).1 h1
  · rintro ⟨h0, h⟩
    refine ⟨h0, fun s' hs' => ?_⟩
    obtain ⟨s, hs, rfl⟩ := List.mem_map.1 hs'
    have h2 := hv.ok s hs
    exact (opp_slack (X := X) ht (by omega) (by omega)).2 (h s hs)

theorem plansFrom_ok {T : Nat} {l l' : List Sp} (h : ∀ X, okPlan T l' X = okPlan T l X) (m : Nat) : ∀ X, plansFrom T l' m X = plansFrom T l m X := by
  induction m with
  | zero => intro X; unfold plansFrom; rw [h]
  | succ m ih =>
    intro X
    unfold plansFrom
    congr 1
    funext x
    exact ih _

theorem opp_plans {T N : Nat} {l : List Sp} (hv : Valid T N l) : plans T N (opp l) = plans T N l := plansFrom_ok (opp_ok hv) N []

theorem opp_len (l : List Sp) : (opp l).length = l.length := by simp [opp]
theorem negR_len (R : List Int) : (negR R).length = R.length := by simp [negR]
theorem negR_hr (R : List Int) (i : Nat) : hr (negR R) i = -hr R i := by
  unfold hr negR
  rw [List.getD_eq_getElem?_getD, List.getD_eq_getElem?_getD, List.getElem?_map]
  cases R[i]? <;> simp

theorem opp_getD (l : List Sp) (i : Nat) : (opp l).getD i default = oppS (l.getD i default) := by
  unfold opp
  rw [List.getD_eq_getElem?_getD, List.getD_eq_getElem?_getD, List.getElem?_map]
  cases l[i]? <;> rfl

theorem opp_kSp {l : List Sp} {k : Int} (hk : k ≠ 0) : kSp (opp l) (-k) = kSp l k := by
  unfold kSp
  rw [Int.natAbs_neg, opp_getD]
  by_cases h : 0 < k
  · rw [if_neg (by omega), if_pos h]
    unfold oppS
    simp
  · rw [if_pos (by omega), if_neg h]
    rfl

theorem opp_kOk {l : List Sp} {k : Int} : kOk (opp l) (-k) ↔ kOk l k := by
  unfold kOk
  rw [opp_len]
  omega

theorem opp_chain {l : List Sp} {R : List Int} {m : Nat} : Chain (opp l) (negR R) m ↔ Chain l R m := by
  have key : ∀ i, kOk l (hr R i) → kSp (opp l) (hr (negR R) i) = kSp l (hr R i) := fun i h => by rw [negR_hr]; exact opp_kSp h.1
  constructor
  · intro h
    have hok : ∀ i, i < m → kOk l (hr R i) := fun i hi => by have := h.ok i hi; rw [negR_hr] at this; exact opp_kOk.1 this
    exact ⟨hok, fun i j h1 h2 => by have := h.new i j h1 h2; rwa [key i (hok i (by omega)), key j (hok j h2)] at this, fun i hi => by have := h.next i hi; rwa [key i (hok i (by omega)), key (i + 1) (hok _ hi)] at this⟩
  · intro h
    have hok := h.ok
    exact ⟨fun i hi => by rw [negR_hr]; exact opp_kOk.2 (hok i hi), fun i j h1 h2 => by rw [key i (hok i (by omega)), key j (hok j h2)]; exact h.new i j h1 h2, fun i hi => by rw [key i (hok i (by omega)), key (i + 1) (hok _ hi)]; exact h.next i hi⟩

theorem opp_sum {l : List Sp} {R : List Int} : ∀ m, (∀ i, i < m → kOk l (hr R i)) → sumLo (opp l) (negR R) m = sumLo l R m ∧ sumHi (opp l) (negR R) m = sumHi l R m := by
  intro m
  induction m with
  | zero => intro _; exact ⟨rfl, rfl⟩
  | succ m ih =>
    intro h
    have h1 := ih (fun i hi => h i (by omega))
    simp only [sumLo, sumHi]
    rw [h1.1, h1.2, negR_hr, opp_kSp (h m (by omega)).1]
    exact ⟨rfl, rfl⟩

theorem opp_ring {n : Nat} {l : List Sp} {R : List Int} : isRing n (opp l) (negR R) ↔ isRing n l R := by
  unfold isRing
  rw [negR_len, opp_chain]
  constructor
  · rintro ⟨h1, h2, h3, h4⟩
    rw [negR_hr, negR_hr, opp_kSp (h3.ok 0 (by omega)).1, opp_kSp (h3.ok (R.length - 1) (by omega)).1] at h4
    exact ⟨h1, h2, h3, h4⟩
  · rintro ⟨h1, h2, h3, h4⟩
    refine ⟨h1, h2, h3, ?_⟩
    rw [negR_hr, negR_hr, opp_kSp (h3.ok 0 (by omega)).1, opp_kSp (h3.ok (R.length - 1) (by omega)).1]
    exact h4

theorem opp_refP {t n : Int} {l : List Sp} {R : List Int} (h1 : spansE t n l = 0) (h2 : spansE t n (opp l) = 0) : refP t n (opp l) (negR R) ↔ refP t n l R := by
  unfold refP
  rw [opp_ring, negR_len]
  constructor
  · rintro ⟨_, h, h3⟩
    obtain ⟨e1, e2⟩ := opp_sum R.length h.2.2.1.ok
    rw [e1, e2] at h3
    exact ⟨h1, h, h3⟩
  · rintro ⟨_, h, h3⟩
    obtain ⟨e1, e2⟩ := opp_sum R.length h.2.2.1.ok
    rw [e1, e2]
    exact ⟨h2, h, h3⟩
end Go.Proofs.Ytgamekcjjpjnnaa
