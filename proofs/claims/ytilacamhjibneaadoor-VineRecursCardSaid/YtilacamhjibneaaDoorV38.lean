/- The shoot after some years, as a list; its length by the tallies and by the table, where no bound is met. No condition. -/
import Derived.Test.YtilacamhjibneaaDoorV37
set_option linter.unusedVariables false
namespace Go.Proofs.YtilacamhjibneaaDoor
open Go.RowKit

def gen (V : List (List Nat)) : Nat → List Nat → List Nat
  | 0, s => s
  | y + 1, s => gen V y (grow1 V s)
theorem gen_app (V : List (List Nat)) : ∀ (y : Nat) (s t : List Nat), gen V y (s ++ t) = gen V y s ++ gen V y t
  | 0, _, _ => rfl
  | y + 1, s, t => by
    show gen V y (grow1 V (s ++ t)) = _
    unfold grow1
    rw [List.flatMap_append, gen_app V y]
    rfl
theorem gen_nil (V : List (List Nat)) : ∀ y, gen V y [] = []
  | 0 => rfl
  | y + 1 => gen_nil V y
theorem gen_succ (V : List (List Nat)) : ∀ (y : Nat) (s : List Nat), gen V (y + 1) s = grow1 V (gen V y s)
  | 0, s => rfl
  | y + 1, s => gen_succ V y (grow1 V s)
theorem gen_cons (V : List (List Nat)) (y : Nat) (c : Nat) (s : List Nat) : gen V (y + 1) (c :: s) = gen V y (part V c) ++ gen V (y + 1) s := by
  show gen V y (grow1 V (c :: s)) = _
  unfold grow1
  rw [List.flatMap_cons, gen_app]
  rfl
theorem gen_lt {V : List (List Nat)} (hV : WF V) : ∀ (y : Nat) (s : List Nat), (∀ c ∈ s, c < V.length) → ∀ c ∈ gen V y s, c < V.length
  | 0, s, h => h
  | y + 1, s, h => gen_lt hV y (grow1 V s) (fun c hc => by
    unfold grow1 at hc
    obtain ⟨d, _, hc⟩ := List.mem_flatMap.1 hc
    exact (hV.part_le d).2 c hc)
theorem gen_len {V : List (List Nat)} (hV : WF V) : ∀ (y : Nat) (s : List Nat), (gen V y s).length ≤ 8 ^ y * s.length
  | 0, s => by simp [gen]
  | y + 1, s => by
    have h1 := gen_len hV y (grow1 V s)
    have h2 := grow1_len hV s
    show (gen V y (grow1 V s)).length ≤ _
    calc (gen V y (grow1 V s)).length ≤ 8 ^ y * (grow1 V s).length := h1
      _ ≤ 8 ^ y * (8 * s.length) := Nat.mul_le_mul_left _ h2
      _ = 8 ^ (y + 1) * s.length := by rw [Nat.pow_succ, Nat.mul_assoc]

/-- By the table. -/
theorem lng_gen {V : List (List Nat)} (hV : WF V) : ∀ (y : Nat) (s : List Nat), (∀ c ∈ s, c < V.length) → lngV s (tab V y) = min (gen V y s).length M63
  | 0, s, hs => by
    rw [lngV_eq]
    congr 1
    unfold sm
    induction s with
    | nil => rfl
    | cons c s ih =>
      have h0 := tab_zero (hs c (by simp))
      have := ih (fun d hd => hs d (by simp [hd]))
      rw [List.map_cons, List.sum_cons, h0, this]
      show 1 + s.length = s.length + 1
      omega
  | y + 1, s, hs => by
    rw [lngV_eq]
    have key : ∀ s : List Nat, (∀ c ∈ s, c < V.length) → min (sm s (tab V (y + 1))) M63 = min (gen V (y + 1) s).length M63 := by
      intro s hs
      induction s with
      | nil => rw [gen_nil]; rfl
      | cons c s ih =>
        have hc := hs c (by simp)
        have h1 := ih (fun d hd => hs d (by simp [hd]))
        have h2 := lng_gen hV y (part V c) (hV.part_le c).2
        rw [gen_cons, List.length_append, show sm (c :: s) (tab V (y + 1)) = at0 (tab V (y + 1)) c + sm s (tab V (y + 1)) by simp [sm], tab_succ hc, h2]
        omega
    exact key s hs

/-! ### By the tallies -/
def sg (f : Nat → Nat) : Nat → Nat
  | 0 => 0
  | k + 1 => sg f k + f k
theorem sg_congr {f g : Nat → Nat} : ∀ k, (∀ j, j < k → f j = g j) → sg f k = sg g k
  | 0, _ => rfl
  | k + 1, h => by rw [sg, sg, sg_congr k (fun j hj => h j (by omega)), h k (by omega)]
theorem sg_add (f g : Nat → Nat) : ∀ k, sg (fun j => f j + g j) k = sg f k + sg g k
  | 0 => rfl
  | k + 1 => by rw [sg, sg, sg, sg_add f g k]; omega
theorem sg_one (n c : Nat) (x : Nat) : ∀ k, sg (fun j => if j = c then x else 0) k = if c < k then x else 0
  | 0 => rfl
  | k + 1 => by
    rw [sg, sg_one n c x k]
    by_cases h : k = c
    · subst h; simp
    · by_cases h2 : c < k
      · rw [if_pos h2, if_neg h, if_pos (by omega), Nat.add_zero]
      · rw [if_neg h2, if_neg h, if_neg (by omega)]
theorem cntF_at {n : Nat} {t : List Nat} (ht : ∀ c ∈ t, c < n) (c : Nat) (hc : c < n) : ∀ k, k ≤ t.length → at0 (cntF n t k) c = (t.take k).count c
  | 0, _ => by
    unfold cntF at0
    rw [List.getElem?_replicate, if_pos hc]
    simp
  | k + 1, hk => by
    have hk' : k < t.length := hk
    have hd := ht _ (List.getElem_mem hk')
    rw [cntF, at0_lt_of hk', at0_set _ _ _ _ (by rw [cntF_len]; exact hd), List.take_succ_eq_append_getElem hk', List.count_append, cntF_at ht c hc k (by omega)]
    by_cases h : t[k] = c
    · rw [if_pos h, h, cntF_at ht c hc k (by omega)]
      simp
    · rw [if_neg h]
      simp [h]
theorem cntV_at {n : Nat} {t : List Nat} (ht : ∀ c ∈ t, c < n) {c : Nat} (hc : c < n) : at0 (cntV n t) c = t.count c := by
  unfold cntV
  rw [cntF_at ht c hc _ (Nat.le_refl _), List.take_length]
theorem aftP_at {p o : List Nat} {x : Nat} (hp : ∀ c ∈ p, c < o.length) (c : Nat) (hc : c < o.length) (ho : at0 o c ≤ lim) : ∀ k, k ≤ p.length → at0 (aftP p x o k) c = min (at0 o c + x * (p.take k).count c) lim
  | 0, _ => by simp [aftP]; omega
  | k + 1, hk => by
    have hk' : k < p.length := hk
    have hd := hp _ (List.getElem_mem hk')
    rw [aftP, at0_lt_of hk', at0_set _ _ _ _ (by rw [aftP_len]; exact hd), List.take_succ_eq_append_getElem hk', List.count_append]
    by_cases h : p[k] = c
    · rw [if_pos h, h, aftP_at hp c hc ho k (by omega)]
      simp [Nat.mul_add]
      omega
    · rw [if_neg h, aftP_at hp c hc ho k (by omega)]
      simp [h]
theorem aftF_at {V : List (List Nat)} (hV : WF V) (T : List Nat) (c : Nat) (hc : c < V.length) : ∀ i, at0 (aftF V T i) c = min (sg (fun j => at0 T j * (part V j).count c) i) lim
  | 0 => by
    unfold aftF at0
    rw [List.getElem?_replicate, if_pos hc]
    rfl
  | i + 1 => by
    have ih := aftF_at hV T c hc i
    rw [aftF, aftP_at (by rw [aftF_len]; exact (hV.part_le i).2) c (by rw [aftF_len]; exact hc) (by rw [ih]; omega) _ (Nat.le_refl _), List.take_length, ih, sg]
    omega
theorem min_sg (L : Nat) (a b : Nat → Nat) : ∀ k, min (sg (fun j => min (a j) L * b j) k) L = min (sg (fun j => a j * b j) k) L
  | 0 => rfl
  | k + 1 => by
    have ih := min_sg L a b k
    rw [sg, sg]
    by_cases h : a k ≤ L
    · rw [Nat.min_eq_left h]
      omega
    · rw [Nat.min_eq_right (by omega : L ≤ a k)]
      rcases Nat.eq_zero_or_pos (b k) with hb | hb
      · rw [hb]; omega
      · have h1 : L ≤ L * b k := Nat.le_mul_of_pos_right L hb
        have h2 : a k ≤ a k * b k := Nat.le_mul_of_pos_right _ hb
        omega
theorem count_grow1 {V : List (List Nat)} (c : Nat) : ∀ s : List Nat, (∀ d ∈ s, d < V.length) → (grow1 V s).count c = sg (fun j => s.count j * (part V j).count c) V.length
  | [], _ => by
    rw [sg_congr (g := fun _ => 0) V.length (fun j _ => by simp)]
    have : ∀ k, sg (fun _ => 0) k = 0 := fun k => by induction k with | zero => rfl | succ k ih => rw [sg, ih]
    rw [this]
    rfl
  | d :: s, hs => by
    have ih := count_grow1 (V := V) c s (fun x hx => hs x (by simp [hx]))
    have e : grow1 V (d :: s) = part V d ++ grow1 V s := by unfold grow1; rw [List.flatMap_cons]
    have e2 : sg (fun j => (d :: s).count j * (part V j).count c) V.length = sg (fun j => s.count j * (part V j).count c) V.length + (part V d).count c := by
      rw [sg_congr (g := fun j => s.count j * (part V j).count c + (if j = d then (part V d).count c else 0)) V.length (fun j _ => by
        rw [List.count_cons]
        by_cases h : j = d
        · subst h; simp [Nat.add_mul]
        · have : ¬ d = j := fun e => h e.symm
          simp [h, this]), sg_add, sg_one V.length d _ V.length, if_pos (hs d (by simp))]
    rw [e, List.count_append, ih, e2]
    omega
theorem agedF_at {V : List (List Nat)} (hV : WF V) {t : List Nat} (ht : ∀ c ∈ t, c < V.length) (hl : t.length ≤ lim) : ∀ (y c : Nat), c < V.length → at0 (agedF V t y) c = min ((gen V y t).count c) lim
  | 0, c, hc => by
    rw [agedF, cntV_at ht hc]
    have := List.count_le_length (a := c) (l := t)
    show _ = min (t.count c) lim
    omega
  | y + 1, c, hc => by
    rw [agedF, aftV, aftF_at hV _ c hc, sg_congr (g := fun j => min ((gen V y t).count j) lim * (part V j).count c) V.length (fun j hj => by rw [agedF_at hV ht hl y j hj]), min_sg, ← count_grow1 c _ (gen_lt hV y t ht), gen_succ]
theorem sumF_at (T : List Nat) : ∀ k, sumF T k = min (sg (at0 T) k) lim
  | 0 => rfl
  | k + 1 => by rw [sumF, sumF_at T k, sg]; omega
theorem sum_count {n : Nat} : ∀ s : List Nat, (∀ d ∈ s, d < n) → sg (fun j => s.count j) n = s.length
  | [], _ => by
    have : ∀ k, sg (fun j => ([] : List Nat).count j) k = 0 := fun k => by induction k with | zero => rfl | succ k ih => rw [sg, ih]; rfl
    rw [this]
    rfl
  | d :: s, hs => by
    have ih := sum_count (n := n) s (fun x hx => hs x (by simp [hx]))
    rw [sg_congr (g := fun j => s.count j + (if j = d then 1 else 0)) n (fun j _ => by
      rw [List.count_cons]
      by_cases h : j = d
      · subst h; simp
      · have : ¬ d = j := fun e => h e.symm
        simp [h, this]), sg_add, sg_one n d _ n, if_pos (hs d (by simp)), ih]
    rfl
/-- The tallies' sum is how long the shoot is, up to the bound. -/
theorem sum_gen {V : List (List Nat)} (hV : WF V) {t : List Nat} (ht : ∀ c ∈ t, c < V.length) (hl : t.length ≤ lim) (y : Nat) : sumV (agedF V t y) = min (gen V y t).length lim := by
  unfold sumV
  rw [sumF_at, agedF_len, sg_congr (g := fun j => min ((gen V y t).count j) lim * 1) V.length (fun j hj => by rw [agedF_at hV ht hl y j hj, Nat.mul_one]), min_sg lim (fun j => (gen V y t).count j) (fun _ => 1) V.length,
    sg_congr (g := fun j => (gen V y t).count j) V.length (fun j _ => Nat.mul_one _), sum_count _ (gen_lt hV y t ht)]
end Go.Proofs.YtilacamhjibneaaDoor
