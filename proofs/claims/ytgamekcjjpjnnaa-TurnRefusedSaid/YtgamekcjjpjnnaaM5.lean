/- The search for a ring that refuses, as plain data. No program. -/
import Derived.Test.YtgamekcjjpjnnaaM4
set_option linter.unusedVariables false
namespace Go.Proofs.Ytgamekcjjpjnnaa

/-- May a step follow? -/
def stepOk (l : List Sp) (R : List Int) (k : Int) : Prop :=
  kOk l k ∧ (R = [] → 0 < k) ∧ (∀ i, i < R.length → (kSp l (hr R i)).src ≠ (kSp l k).src) ∧ (0 < R.length → (kSp l (hr R (R.length - 1))).dst = (kSp l k).src)
instance (l : List Sp) (R : List Int) (k : Int) : Decidable (stepOk l R k) := by unfold stepOk; infer_instance

/-- Do steps close, and refuse? -/
def ringEnd (T : Nat) (l : List Sp) (R : List Int) : Bool :=
  decide ((kSp l (hr R (R.length - 1))).dst = (kSp l (hr R 0)).src ∧ sumHi l R R.length < sumLo l R R.length + -(sumLo l R R.length) % (T : Int))

def kList (l : List Sp) : List Int := (List.range (2 * l.length + 1)).map fun (i : Nat) => (i : Int) - l.length

/-- The first ring that begins with some steps, m steps more. -/
def ringSearch (T : Nat) (l : List Sp) : Nat → List Int → Option (List Int)
  | 0, R => if ringEnd T l R then some R else none
  | m + 1, R => (kList l).findSome? fun k => if stepOk l R k then ringSearch T l m (R ++ [k]) else none

def cand (T : Nat) (l : List Sp) (m : Nat) (R : List Int) (k : Int) : Option (List Int) := if stepOk l R k then ringSearch T l m (R ++ [k]) else none

/-- The first ring that refuses, by its length. -/
def ringE (t n : Int) (l : List Sp) : List Int × Int :=
  if spansE t n l ≠ 0 then ([], spansE t n l) else match (List.range (n.toNat - 1)).findSome? (fun i => ringSearch t.toNat l (i + 2) []) with
    | none => ([], 10)
    | some X => (X, 0)

theorem findSome_range {α : Type} {f : Nat → Option α} {n i : Nat} {x : α} (hi : i < n) (h : ∀ j, j < i → f j = none) (hs : f i = some x) : (List.range n).findSome? f = some x := by
  induction n with
  | zero => omega
  | succ n ih =>
    rw [List.range_succ, List.findSome?_append]
    by_cases he : i = n
    · subst he
      rw [show (List.range i).findSome? f = none from List.findSome?_eq_none_iff.2 (fun j hj => h j (by simpa using hj))]
      simp [hs]
    · rw [ih (by omega)]
      rfl
theorem findSome_range_none {α : Type} {f : Nat → Option α} {n : Nat} (h : ∀ j, j < n → f j = none) : (List.range n).findSome? f = none :=
  List.findSome?_eq_none_iff.2 (fun j hj => h j (by simpa using hj))

theorem search_none {T m : Nat} {l : List Sp} {R : List Int} (h : ∀ k : Int, -(l.length : Int) ≤ k → k ≤ l.length → cand T l m R k = none) : ringSearch T l (m + 1) R = none := by
  unfold ringSearch kList
  rw [List.findSome?_eq_none_iff]
  intro k hk
  obtain ⟨i, hi, rfl⟩ := List.mem_map.1 hk
  have : i < 2 * l.length + 1 := by simpa using hi
  exact h _ (by omega) (by omega)

theorem search_some {T m : Nat} {l : List Sp} {R : List Int} {k : Int} {X : List Int} (h : ∀ k' : Int, -(l.length : Int) ≤ k' → k' < k → cand T l m R k' = none) (h1 : -(l.length : Int) ≤ k) (h2 : k ≤ l.length) (hs : cand T l m R k = some X) :
    ringSearch T l (m + 1) R = some X := by
  unfold ringSearch kList
  rw [List.findSome?_map]
  refine findSome_range (i := (k + l.length).toNat) (by omega) (fun j hj => ?_) ?_
  · exact h ((j : Int) - l.length) (by omega) (by omega)
  · show cand T l m R (((k + l.length).toNat : Nat) - (l.length : Int)) = _
    rw [show (((k + l.length).toNat : Nat) : Int) - l.length = k by omega]
    exact hs

theorem hr_last {R : List Int} {k : Int} : hr (R ++ [k]) R.length = k := hr_append_new
theorem hr_old {R : List Int} {k : Int} {i : Nat} (h : i < R.length) : hr (R ++ [k]) i = hr R i := hr_append_lt h

theorem Chain.snoc {l : List Sp} {R : List Int} {k : Int} (h : Chain l R R.length) (hk : stepOk l R k) : Chain l (R ++ [k]) (R ++ [k]).length := by
  obtain ⟨h1, h2, h3, h4⟩ := hk
  have h5 : Chain l (R ++ [k]) R.length := by
    refine ⟨fun i hi => ?_, fun i j hi hj => ?_, fun i hi => ?_⟩
    · rw [hr_old hi]; exact h.ok i hi
    · rw [hr_old (by omega), hr_old hj]; exact h.new i j hi hj
    · rw [hr_old (by omega), hr_old hi]; exact h.next i hi
  rw [show (R ++ [k]).length = R.length + 1 by simp]
  refine h5.step (by rw [hr_last]; exact h1) (fun i hi => ?_) (fun h0 => ?_)
  · rw [hr_last, hr_old hi]; exact h3 i hi
  · rw [hr_last, hr_old (by omega)]; exact h4 h0

theorem sumLo_old {l : List Sp} {R : List Int} {k : Int} : ∀ m, m ≤ R.length → sumLo l (R ++ [k]) m = sumLo l R m
  | 0, _ => rfl
  | m + 1, h => by simp only [sumLo]; rw [sumLo_old m (by omega), hr_old (by omega)]
theorem sumHi_old {l : List Sp} {R : List Int} {k : Int} : ∀ m, m ≤ R.length → sumHi l (R ++ [k]) m = sumHi l R m
  | 0, _ => rfl
  | m + 1, h => by simp only [sumHi]; rw [sumHi_old m (by omega), hr_old (by omega)]
theorem seenN_old {l : List Sp} {R : List Int} {k : Int} : ∀ m, m ≤ R.length → seenN l (R ++ [k]) m = seenN l R m
  | 0, _ => rfl
  | m + 1, h => by simp only [seenN]; rw [seenN_old m (by omega), hr_old (by omega)]
theorem sumLo_snoc {l : List Sp} {R : List Int} {k : Int} : sumLo l (R ++ [k]) (R ++ [k]).length = sumLo l R R.length + (kSp l k).lo := by
  rw [show (R ++ [k]).length = R.length + 1 by simp, sumLo, sumLo_old _ (Nat.le_refl _), hr_last]
theorem sumHi_snoc {l : List Sp} {R : List Int} {k : Int} : sumHi l (R ++ [k]) (R ++ [k]).length = sumHi l R R.length + (kSp l k).hi := by
  rw [show (R ++ [k]).length = R.length + 1 by simp, sumHi, sumHi_old _ (Nat.le_refl _), hr_last]
theorem seenN_snoc {l : List Sp} {R : List Int} {k : Int} : seenN l (R ++ [k]) (R ++ [k]).length = seenN l R R.length ||| 2 ^ (kSp l k).src.toNat := by
  rw [show (R ++ [k]).length = R.length + 1 by simp, seenN, seenN_old _ (Nat.le_refl _), hr_last]

/-- A ring that closes too early goes no further. -/
theorem dead {T m : Nat} {l : List Sp} {R : List Int} {k : Int} (h0 : 0 < R.length) (hd : (kSp l k).dst = (kSp l (hr R 0)).src) : ringSearch T l (m + 1) (R ++ [k]) = none := by
  refine search_none fun k' _ _ => ?_
  unfold cand
  rw [if_neg]
  rintro ⟨h1, h2, h3, h4⟩
  have h5 := h3 0 (by simp)
  have h6 := h4 (by simp)
  rw [show (R ++ [k]).length - 1 = R.length by simp, hr_last] at h6
  rw [hr_old h0] at h5
  omega

theorem kSp_lo (l : List Sp) (k : Int) : (if decide (0 < k) = true then (l.getD (k.natAbs - 1) default).lo else -(l.getD (k.natAbs - 1) default).hi) = (kSp l k).lo := by
  unfold kSp; by_cases h : 0 < k <;> simp [h]
theorem kSp_hi (l : List Sp) (k : Int) : (if decide (0 < k) = true then (l.getD (k.natAbs - 1) default).hi else -(l.getD (k.natAbs - 1) default).lo) = (kSp l k).hi := by
  unfold kSp; by_cases h : 0 < k <;> simp [h]
end Go.Proofs.Ytgamekcjjpjnnaa
