/- The program's rounds of Faddeev and LeVerrier are the exact ones. Plain facts. Their conditions are their premises. -/
import Derived.Test.YtilacamhjibneaaDoorV23
import Derived.Test.YtilacamhjibneaaDoorV61
set_option linter.unusedVariables false
namespace Go.Proofs.YtilacamhjibneaaDoor
open Go.RowKit

theorem nat_mul_abs {x y : Int} {a b : Nat} (h1 : x.natAbs ≤ a) (h2 : y.natAbs ≤ b) : (x * y).natAbs ≤ a * b := by
  rw [Int.natAbs_mul]
  exact Nat.mul_le_mul h1 h2
theorem ex_bound {g : Nat → Int} (hg : ∀ c, (g c).natAbs ≤ 8) : ∀ (cs : List Nat) (F : List Nat → Int) (B : Nat), (∀ l, l.length ≤ cs.length → (F l).natAbs ≤ B) → (ex g F cs).natAbs ≤ cs.length * (8 * B)
  | [], F, B, _ => by simp [ex]
  | c :: cs, F, B, h => by
    have h1 := ex_bound hg cs (fun l => F (c :: l)) B (fun l hl => h _ (by simp; omega))
    have h2 := nat_mul_abs (hg c) (h cs (by simp))
    have h3 : (cs.length + 1) * (8 * B) = cs.length * (8 * B) + 8 * B := Nat.succ_mul _ _
    rw [ex, List.length_cons]
    omega
theorem det_bound {a : Nat → Nat → Int} (ha : ∀ i j, (a i j).natAbs ≤ 8) : ∀ (rows cols : List Nat), cols.length ≤ 7 → (det a rows cols).natAbs ≤ 56 ^ rows.length
  | [], cols, _ => by simp [det]
  | r :: rows, cols, h => by
    have h1 := ex_bound (ha r) cols (det a rows) (56 ^ rows.length) (fun l hl => det_bound ha rows l (by omega))
    have h2 : cols.length * (8 * 56 ^ rows.length) ≤ 7 * (8 * 56 ^ rows.length) := Nat.mul_le_mul_right _ h
    rw [det, List.length_cons, Nat.pow_succ]
    omega
theorem sumS_bound : ∀ (l : List Nat) (k : Nat) (f : List Nat → Int) (B : Nat), (∀ S, S.length = k → (f S).natAbs ≤ B) → (sumS f l k).natAbs ≤ 2 ^ l.length * B
  | [], 0, f, B, h => by simpa [sumS] using h [] rfl
  | [], k + 1, f, B, _ => by simp [sumS]
  | c :: l, 0, f, B, h => by
    have h1 : 1 ≤ 2 ^ (c :: l).length := Nat.one_le_two_pow
    have h2 : 1 * B ≤ 2 ^ (c :: l).length * B := Nat.mul_le_mul_right _ h1
    have h3 := h [] rfl
    rw [sumS]
    omega
  | c :: l, k + 1, f, B, h => by
    have h1 := sumS_bound l k (fun S => f (c :: S)) B (fun S hS => h _ (by simp [hS]))
    have h2 := sumS_bound l (k + 1) f B h
    rw [sumS, List.length_cons, Nat.pow_succ]
    have h3 : 2 ^ l.length * 2 * B = 2 ^ l.length * B + 2 ^ l.length * B := by rw [Nat.mul_right_comm]; omega
    omega
def big : Nat := 1973822685184
theorem pow_56 {k : Nat} (h : k ≤ 6) : 56 ^ k ≤ 30840979456 := Nat.le_trans (Nat.pow_le_pow_right (by omega) h) (by decide)
theorem sum_small {n k : Nat} (hn : n ≤ 6) {f : List Nat → Int} (h : ∀ S, S.length = k → (f S).natAbs ≤ 30840979456) : (sumS f (List.range n) k).natAbs ≤ big := by
  have h1 := sumS_bound (List.range n) k f 30840979456 h
  rw [List.length_range] at h1
  have h2 : 2 ^ n ≤ 64 := Nat.le_trans (Nat.pow_le_pow_right (by omega) hn) (by decide)
  have h3 := Nat.mul_le_mul_right 30840979456 h2
  unfold big
  omega
theorem eSum_bound {a : Nat → Nat → Int} (ha : ∀ i j, (a i j).natAbs ≤ 8) {n k : Nat} (hn : n ≤ 6) (hk : k ≤ 6) : (eSum a n k).natAbs ≤ big :=
  sum_small hn (fun S hS => Nat.le_trans (det_bound ha S S (by omega)) (by rw [hS]; exact pow_56 hk))
theorem qSum_bound {a : Nat → Nat → Int} (ha : ∀ i j, (a i j).natAbs ≤ 8) {n k : Nat} (hn : n ≤ 6) (hk : k ≤ 5) (i j : Nat) : (qSum a n k i j).natAbs ≤ big :=
  sum_small hn (fun S hS => Nat.le_trans (det_bound ha (i :: S) (j :: S) (by simp; omega)) (by rw [List.length_cons, hS]; exact pow_56 (by omega)))
theorem sgn_abs (k : Nat) (x : Int) : (sgn k * x).natAbs = x.natAbs := by
  rcases sgn_cases k with h | h
  · rw [h, Int.one_mul]
  · rw [h]; omega
theorem coef_bound {a : Nat → Nat → Int} (ha : ∀ i j, (a i j).natAbs ≤ 8) {n k : Nat} (hn : n ≤ 6) (hk : k ≤ 5) : (coef a n k).natAbs ≤ big := by
  unfold coef
  rw [sgn_abs]
  exact eSum_bound ha hn (by omega)
theorem flB_bound {a : Nat → Nat → Int} (ha : ∀ i j, (a i j).natAbs ≤ 8) {n k : Nat} (hn : n ≤ 6) (hk : k ≤ 6) (i j : Nat) : (flB a n k i j).natAbs ≤ 2 * big := by
  cases k with
  | zero =>
    show (delta i j).natAbs ≤ _
    unfold delta big
    split <;> simp
  | succ k =>
    rw [flB]
    have h1 := qSum_bound ha hn (show k ≤ 5 by omega) i j
    have h2 := coef_bound ha hn (show k ≤ 5 by omega)
    have h3 := sgn_abs k (qSum a n k i j)
    have h4 : (delta i j * coef a n k).natAbs ≤ big := by
      unfold delta
      split
      · rw [Int.one_mul]; exact h2
      · rw [Int.zero_mul]; simp
    omega

theorem wrap_id {x : Int} (h : x.natAbs ≤ 9000000000000000000) : wrap64 x = x := by
  unfold wrap64
  omega
theorem sumI_append (f : Nat → Int) : ∀ (l m : List Nat), sumI f (l ++ m) = sumI f l + sumI f m
  | [], m => by simp [sumI]
  | c :: l, m => by rw [List.cons_append, sumI, sumI, sumI_append f l m]; omega
theorem sumI_range (f : Nat → Int) (k : Nat) : sumI f (List.range (k + 1)) = sumI f (List.range k) + f k := by
  rw [List.range_succ, sumI_append]
  simp [sumI]
theorem sumI_bound (f : Nat → Int) (B : Nat) (h : ∀ x, (f x).natAbs ≤ B) (k : Nat) : (sumI f (List.range k)).natAbs ≤ k * B := by
  induction k with
  | zero => simp [sumI]
  | succ k ih =>
    rw [sumI_range, Nat.succ_mul]
    have := h k
    omega
/-- The entries of a product, exact. -/
theorem prE_eq {A B : List (List Int)} {i j : Nat} {g : Nat → Int} (h : ∀ s, g s = ent A i s * ent B s j) (hb : ∀ s, (g s).natAbs ≤ 8 * (2 * big)) : ∀ k, k ≤ 6 → prE A B i j k = sumI g (List.range (k + 1))
  | 0, _ => by
    rw [prE, ← h, wrap_id (by have := hb 0; unfold big at this; omega)]
    simp [sumI, List.range_succ]
  | k + 1, hk => by
    have h1 := prE_eq h hb k (by omega)
    have h2 := sumI_bound g _ hb (k + 1 + 1)
    have h3 := hb (k + 1)
    have h4 : (k + 1 + 1) * (8 * (2 * big)) ≤ 8 * (8 * (2 * big)) := Nat.mul_le_mul_right _ (by omega)
    have hbig : big = 1973822685184 := rfl
    rw [prE, ← h, h1, wrap_id (x := g (k + 1)) (by omega), sumI_range g (k + 1), wrap_id]
    rw [sumI_range g (k + 1)] at h2
    omega
theorem trF_eq {B : List (List Int)} {g : Nat → Int} (b : Nat) (hb : ∀ s, (g s).natAbs ≤ b) (hb2 : b ≤ 1000000000000000000) : ∀ k, k ≤ 7 → (∀ s, s < k → g s = ent B s s) → trF B k = sumI g (List.range k)
  | 0, _, _ => rfl
  | k + 1, hk, h => by
    have h2 := sumI_bound g b hb (k + 1)
    have h4 : (k + 1) * b ≤ 7 * b := Nat.mul_le_mul_right _ hk
    have h5 : 7 * b ≤ 7 * 1000000000000000000 := Nat.mul_le_mul_left _ hb2
    rw [trF, trF_eq b hb hb2 k (by omega) (fun s hs => h s (by omega)), ← h k (by omega), ← sumI_range, wrap_id (by omega)]

/-- A list of rows, all of the same length. -/
structure Sq (n : Nat) (A : List (List Int)) : Prop where
  len : A.length = n
  rows : ∀ i, i < n → (row A i).length = n
theorem row_set (A : List (List Int)) (i k : Nat) (r : List Int) (h : i < A.length) : row (A.set i r) k = if i = k then r else row A k := by
  unfold row
  rw [List.getElem?_set]
  by_cases hk : i = k
  · subst hk; simp [h]
  · simp [hk]
theorem ent_setR (A : List (List Int)) (i j : Nat) (x : Int) (h : i < A.length) (hj : j < (row A i).length) (k m : Nat) : ent (A.set i ((row A i).set j x)) k m = if i = k ∧ j = m then x else ent A k m := by
  unfold ent
  rw [row_set A i k _ h]
  by_cases hk : i = k
  · subst hk
    rw [if_pos rfl, List.getElem?_set]
    by_cases hm : j = m
    · subst hm; simp [hj]
    · simp [hm]
  · simp [hk]
theorem Sq.set {n : Nat} {A : List (List Int)} (h : Sq n A) {i j : Nat} (hi : i < n) (x : Int) : Sq n (A.set i ((row A i).set j x)) := by
  refine ⟨by rw [List.length_set]; exact h.len, fun k hk => ?_⟩
  rw [row_set A i k _ (by rw [h.len]; exact hi)]
  split
  · rw [List.length_set]; exact h.rows i hi
  · exact h.rows k hk
theorem subF_eq {n : Nat} {B : List (List Int)} (h : Sq n B) (c : Int) : ∀ k, k ≤ n → Sq n (subF B c k) ∧ ∀ i j, ent (subF B c k) i j = if i = j ∧ i < k then wrap64 (ent B i i - c) else ent B i j
  | 0, _ => ⟨h, fun i j => by rw [subF, if_neg (by omega)]⟩
  | k + 1, hk => by
    obtain ⟨h1, h2⟩ := subF_eq h c k (by omega)
    refine ⟨h1.set (by omega) _, fun i j => ?_⟩
    rw [subF, ent_setR _ k k _ (by rw [h1.len]; omega) (by rw [h1.rows k (by omega)]; omega), h2 i j, h2 k k]
    by_cases hij : i = j
    · subst hij
      by_cases hki : k = i
      · subst hki; simp
      · simp only [hki, false_and, if_false, true_and]
        by_cases hlt : i < k
        · rw [if_pos hlt, if_pos (by omega)]
        · rw [if_neg hlt, if_neg (by omega)]
    · simp only [hij, false_and, if_false]
      rw [if_neg (by omega)]
theorem sq_prM (A B : List (List Int)) (n : Nat) : Sq n (prM A B n n) := by
  refine ⟨by simp [prM], fun i hi => ?_⟩
  unfold row prM
  rw [List.getElem?_map, List.getElem?_range hi]
  exact prR_len _ _ _ _ _
theorem ent_prM (A B : List (List Int)) {n i j : Nat} (hi : i < n) (hj : j < n) : ent (prM A B n n) i j = prE A B i j (n - 1) := by
  unfold ent row prM
  rw [List.getElem?_map, List.getElem?_range hi]
  simp only [Option.map_some, Option.getD_some]
  unfold prR
  rw [List.getElem?_map, List.getElem?_range hj]
  rfl
theorem sq_id (n : Nat) : Sq n (idM n n) := by
  refine ⟨by simp [idM], fun i hi => ?_⟩
  unfold row idM
  rw [List.getElem?_map, List.getElem?_range hi]
  simp [idR]
theorem ent_id {n i j : Nat} (hi : i < n) (hj : j < n) : ent (idM n n) i j = delta i j := by
  unfold ent row idM
  rw [List.getElem?_map, List.getElem?_range hi]
  simp only [Option.map_some, Option.getD_some]
  unfold idR delta
  rw [List.getElem?_set]
  by_cases h : i = j
  · subst h; simp [hi]
  · rw [if_neg h, if_neg h, List.getElem?_replicate, if_pos hj]
    rfl
theorem ent_out {n : Nat} {A : List (List Int)} (h : Sq n A) {i j : Nat} (hij : ¬ (i < n ∧ j < n)) : ent A i j = 0 := by
  unfold ent
  by_cases hi : i < n
  · rw [List.getElem?_eq_none (by rw [h.rows i hi]; omega)]; rfl
  · have : A[i]? = none := List.getElem?_eq_none (by rw [h.len]; omega)
    unfold row
    rw [this]
    simp
/-- The program's rounds are the exact ones. -/
theorem recF_eq {n : Nat} {M : List (List Int)} (hn : n ≤ 6) (h1 : 1 ≤ n) (hM : Sq n M) (hb : ∀ i j, (ent M i j).natAbs ≤ 8) : ∀ k, k ≤ n →
    Sq n (recF n M k).1 ∧ (∀ i j, i < n → j < n → ent (recF n M k).1 i j = flB (ent M) n k i j) ∧ (recF n M k).2 = (List.range k).map (coef (ent M) n)
  | 0, _ => ⟨sq_id n, fun i j hi hj => ent_id hi hj, rfl⟩
  | k + 1, hk => by
    obtain ⟨ih1, ih2, ih3⟩ := recF_eq hn h1 hM hb k (by omega)
    have hbig : big = 1973822685184 := rfl
    have hfl := flB_bound hb hn (show k ≤ 6 by omega)
    have hent : ∀ i j, (ent (recF n M k).1 i j).natAbs ≤ 2 * big := fun i j => by
      by_cases hij : i < n ∧ j < n
      · rw [ih2 i j hij.1 hij.2]; exact hfl i j
      · rw [ent_out ih1 hij]; simp
    have hP : ∀ i j, i < n → j < n → ent (prM M (recF n M k).1 n n) i j = sgn k * qSum (ent M) n k i j := fun i j hi hj => by
      rw [ent_prM _ _ hi hj, prE_eq (g := fun s => ent M i s * ent (recF n M k).1 s j) (fun s => rfl) (fun s => nat_mul_abs (hb i s) (hent s j)) (n - 1) (by omega), show n - 1 + 1 = n by omega, ← flB_prod (ent M) n k i j hj]
      exact sumI_congr _ (fun s hs => by rw [ih2 s j (List.mem_range.1 hs) hj])
    have hq := fun i => qSum_bound hb hn (show k ≤ 5 by omega) i i
    have hT : trF (prM M (recF n M k).1 n n) n = ((k + 1 : Nat) : Int) * coef (ent M) n k := by
      rw [trF_eq (g := fun i => sgn k * qSum (ent M) n k i i) big (fun s => by rw [sgn_abs]; exact hq s) (by omega) n (by omega) (fun s hs => (hP s s hs hs).symm), flB_trace]
    have hco := coef_bound hb hn (show k ≤ 5 by omega)
    have hC : wrap64 ((trF (prM M (recF n M k).1 n n) n).tdiv ((k + 1 : Nat) : Int)) = coef (ent M) n k := by
      rw [hT, Int.mul_tdiv_cancel_left _ (by omega), wrap_id (by omega)]
    obtain ⟨s1, s2⟩ := subF_eq (sq_prM M (recF n M k).1 n) (coef (ent M) n k) n (Nat.le_refl _)
    have e : recF n M (k + 1) = (subF (prM M (recF n M k).1 n n) (coef (ent M) n k) n, (recF n M k).2 ++ [coef (ent M) n k]) := by
      rw [recF, hC]
    rw [e]
    refine ⟨s1, fun i j hi hj => ?_, ?_⟩
    · show ent (subF _ _ _) i j = _
      rw [s2 i j, flB]
      by_cases hij : i = j
      · subst hij
        rw [if_pos ⟨rfl, hi⟩, hP i i hi hi]
        have := hq i
        have h3 := sgn_abs k (qSum (ent M) n k i i)
        rw [wrap_id (by omega)]
        simp [delta]
      · rw [if_neg (by omega), hP i j hi hj]
        simp [delta, hij]
    · show (recF n M k).2 ++ [_] = _
      rw [ih3, List.range_succ, List.map_append]
      rfl
end Go.Proofs.YtilacamhjibneaaDoor
