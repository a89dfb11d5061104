/- How likely the groups of a garden hang together: the two sums are one. Plain. -/
import Derived.Test.YtmmpdfcnenljhaaF16
set_option linter.unusedVariables false
namespace Go.Proofs.Ytmmpdfcnenljhaa
open Go.RowKit

/-- May a ratio be a probability? -/
def partOk (p q : Int) : Prop := 1 ≤ q ∧ q ≤ 8 ∧ 0 ≤ p ∧ p ≤ q ∧ Nat.gcd p.toNat q.toNat = 1
instance (p q : Int) : Decidable (partOk p q) := by unfold partOk; infer_instance

/-- Does a set of fences hold the groups together? -/
def holdB (N : Nat) (l : List Fe) (S : Nat) : Bool := decide (groupsV N l S = groupsV N l (allV l))
/-- The weight of a set of k fences. -/
def wgt (P R m k : Nat) : Nat := P ^ k * R ^ (m - k)
def refTo (N : Nat) (l : List Fe) (P R : Nat) : Nat → Nat
  | 0 => 0
  | s + 1 => if holdB N l s = true then refTo N l P R s + wgt P R l.length (sizeV s) else refTo N l P R s
/-- How many of the first s sets, by their number of fences, hold the groups together. -/
def cntTo (N : Nat) (l : List Fe) : Nat → List Int
  | 0 => List.replicate (l.length + 1) 0
  | s + 1 => if holdB N l s = true then (cntTo N l s).set (sizeV s) (hr (cntTo N l s) (sizeV s) + 1) else cntTo N l s
/-- The program's sum, of the first k numbers of fences. -/
def dotTo (P R m : Nat) (G : List Int) : Nat → Int
  | 0 => 0
  | k + 1 => dotTo P R m G k + hr G k * (wgt P R m k : Nat)

theorem cntTo_len (N : Nat) (l : List Fe) : ∀ s, (cntTo N l s).length = l.length + 1
  | 0 => by simp [cntTo]
  | s + 1 => by
    rw [cntTo]
    split
    · rw [List.length_set]; exact cntTo_len N l s
    · exact cntTo_len N l s
theorem dotTo_rep (P R m n : Nat) : ∀ k, k ≤ n → dotTo P R m (List.replicate n 0) k = 0
  | 0, _ => rfl
  | k + 1, h => by
    rw [dotTo, dotTo_rep P R m n k (by omega), hr_lt (by rw [List.length_replicate]; omega)]
    simp
theorem dotTo_set (P R m : Nat) (G : List Int) (i : Nat) (hi : i < G.length) : ∀ k, k ≤ G.length → dotTo P R m (G.set i (hr G i + 1)) k = dotTo P R m G k + if i < k then ((wgt P R m i : Nat) : Int) else 0
  | 0, _ => by simp [dotTo]
  | k + 1, h => by
    rw [dotTo, dotTo, dotTo_set P R m G i hi k (by omega), hr_set hi (by omega)]
    by_cases h1 : i < k
    · rw [if_pos h1, if_neg (show ¬ i = k by omega), if_pos (show i < k + 1 by omega)]; omega
    · rw [if_neg h1]
      by_cases h2 : i = k
      · subst h2
        rw [if_pos rfl, if_pos (show i < i + 1 by omega), Int.add_mul]; omega
      · rw [if_neg h2, if_neg (show ¬ i < k + 1 by omega)]; omega
theorem dot_ref (N : Nat) (l : List Fe) (P R : Nat) (hl : l.length ≤ 14) : ∀ s, s ≤ 2 ^ l.length → dotTo P R l.length (cntTo N l s) (l.length + 1) = (refTo N l P R s : Nat)
  | 0, _ => by rw [cntTo, dotTo_rep _ _ _ _ _ (Nat.le_refl _)]; rfl
  | s + 1, h => by
    have ih := dot_ref N l P R hl s (by omega)
    have hs : sizeV s ≤ l.length := sizeV_le (show s < 2 ^ l.length by omega) (by omega)
    rw [cntTo, refTo]
    split
    · rw [dotTo_set _ _ _ _ _ (by rw [cntTo_len]; omega) _ (by rw [cntTo_len]; exact Nat.le_refl _), ih, if_pos (by omega)]
      simp
    · exact ih
theorem wgt_le {P R m k : Nat} (hP : P ≤ 8) (hR : R ≤ 8) (hk : k ≤ m) : wgt P R m k ≤ 8 ^ m := by
  unfold wgt
  calc P ^ k * R ^ (m - k) ≤ 8 ^ k * 8 ^ (m - k) := Nat.mul_le_mul (Nat.pow_le_pow_left hP _) (Nat.pow_le_pow_left hR _)
    _ = 8 ^ m := by rw [← Nat.pow_add]; congr 1; omega
theorem refTo_le (N : Nat) (l : List Fe) (P R : Nat) (hl : l.length ≤ 14) (hP : P ≤ 8) (hR : R ≤ 8) : ∀ s, s ≤ 2 ^ l.length → refTo N l P R s ≤ s * 8 ^ l.length
  | 0, _ => by simp [refTo]
  | s + 1, h => by
    have ih := refTo_le N l P R hl hP hR s (by omega)
    have hw := wgt_le hP hR (sizeV_le (show s < 2 ^ l.length by omega) (by omega) : sizeV s ≤ l.length)
    rw [refTo, Nat.add_mul]
    split <;> omega
/-- The sum of the sets that hold the groups together. -/
def standSum (N : Nat) (l : List Fe) (p q : Nat) : Nat := refTo N l p (q - p) (2 ^ l.length)
theorem pow8_le {m : Nat} (h : m ≤ 14) : 8 ^ m ≤ 4398046511104 := Nat.le_trans (Nat.pow_le_pow_right (by omega) h) (by decide)
theorem standSum_lt (N : Nat) (l : List Fe) {p q : Nat} (hl : l.length ≤ 14) (hq : q ≤ 8) (hp : p ≤ q) : standSum N l p q < 9223372036854775808 := by
  unfold standSum
  have h1 := refTo_le N l p (q - p) hl (by omega) (by omega) _ (Nat.le_refl _)
  have h2 : 2 ^ l.length ≤ 2 ^ 14 := Nat.pow_le_pow_right (by omega) hl
  have h3 : 2 ^ l.length * 8 ^ l.length ≤ 2 ^ 14 * 4398046511104 := Nat.mul_le_mul h2 (pow8_le hl)
  omega
/-- What Stands answers. -/
def standsE (n : Int) (l : List Fe) (p q : Int) : Int × Int × Int :=
  if gardenE n l ≠ 0 then (0, 0, gardenE n l) else if ¬ partOk p q then (0, 0, 2)
  else (((standSum n.toNat l p.toNat q.toNat / Nat.gcd (standSum n.toNat l p.toNat q.toNat) (q.toNat ^ l.length) : Nat) : Int), ((q.toNat ^ l.length / Nat.gcd (standSum n.toNat l p.toNat q.toNat) (q.toNat ^ l.length) : Nat) : Int), 0)
theorem standsE_err {n : Int} {l : List Fe} {p q : Int} (h : gardenE n l ≠ 0) : standsE n l p q = (0, 0, gardenE n l) := by unfold standsE; rw [if_pos h]
theorem standsE_arg {n : Int} {l : List Fe} {p q : Int} (h : gardenE n l = 0) (h2 : ¬ partOk p q) : standsE n l p q = (0, 0, 2) := by unfold standsE; rw [if_neg (by simpa using h), if_pos h2]
theorem standsE_ok {N P Q : Nat} {l : List Fe} (h : gardenE N l = 0) (h2 : partOk P Q) : standsE N l P Q =
    (((standSum N l P Q / Nat.gcd (standSum N l P Q) (Q ^ l.length) : Nat) : Int), ((Q ^ l.length / Nat.gcd (standSum N l P Q) (Q ^ l.length) : Nat) : Int), 0) := by
  unfold standsE; rw [if_neg (by simpa using h), if_neg (by simpa using h2)]; rfl
theorem wrap_pow {P k : Nat} (hP : P ≤ 8) (hk : k ≤ 14) : wrap64 ((P : Int) ^ k) = ((P ^ k : Nat) : Int) := by
  have h := Nat.le_trans (Nat.pow_le_pow_left hP k) (pow8_le hk)
  rw [← Int.natCast_pow]
  exact wrap64_nat _ (by omega)
theorem cntTo_hr (N : Nat) (l : List Fe) (i : Nat) : ∀ s, 0 ≤ hr (cntTo N l s) i ∧ hr (cntTo N l s) i ≤ s
  | 0 => by
    rw [cntTo]
    unfold hr
    rw [List.getD_eq_getElem?_getD, List.getElem?_replicate]
    split <;> simp
  | s + 1 => by
    have ih := cntTo_hr N l i s
    rw [cntTo]
    split
    · by_cases hi : i < (cntTo N l s).length
      · by_cases h2 : sizeV s < (cntTo N l s).length
        · rw [hr_set h2 hi]
          split
          · rename_i h3
            rw [h3]; omega
          · omega
        · rw [List.set_eq_of_length_le (by omega)]; omega
      · unfold hr
        rw [List.getD_eq_getElem?_getD, List.getElem?_eq_none (by rw [List.length_set]; omega)]
        simp
        omega
    · omega
end Go.Proofs.Ytmmpdfcnenljhaa
