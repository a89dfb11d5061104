/- The sums of minors over sets of rows; the matrix of what grows, counted; rows that are made one by one. Plain facts and facts on memory. Their conditions are their premises. -/
import Derived.Test.YtilacamhjibneaaDoorV64
import Derived.Test.YtilacamhjibneaaDoorV38
set_option linter.unusedVariables false
namespace Go.Proofs.YtilacamhjibneaaDoor
open Go.RowKit

/-- The matrix of what grows, counted. -/
def cntR (V : List (List Nat)) (i : Nat) : List Nat := (List.range V.length).map fun j => (part V j).count i
def cntM (V : List (List Nat)) : List (List Int) := (List.range V.length).map fun i => (cntR V i).map fun (x : Nat) => (x : Int)
theorem cntR_len (V : List (List Nat)) (i : Nat) : (cntR V i).length = V.length := by simp [cntR]
theorem sq_cnt (V : List (List Nat)) : Sq V.length (cntM V) := by
  refine ⟨by simp [cntM], fun i hi => ?_⟩
  unfold row cntM
  rw [List.getElem?_map, List.getElem?_range hi]
  simp [cntR]
theorem ent_cnt (V : List (List Nat)) {i j : Nat} (hi : i < V.length) (hj : j < V.length) : ent (cntM V) i j = ((part V j).count i : Nat) := by
  unfold ent row cntM cntR
  rw [List.getElem?_map, List.getElem?_range hi]
  simp only [Option.map_some, Option.getD_some]
  rw [List.getElem?_map, List.getElem?_map, List.getElem?_range hj]
  rfl
theorem ent_cnt_abs {V : List (List Nat)} (hV : WF V) (i j : Nat) : (ent (cntM V) i j).natAbs ≤ 8 := by
  by_cases h : i < V.length ∧ j < V.length
  · rw [ent_cnt V h.1 h.2]
    have h1 := (hV.part_le j).1
    have h2 := List.count_le_length (l := part V j) (a := i)
    omega
  · rw [ent_out (sq_cnt V) h]; simp
theorem ent_bump {n : Nat} {A : List (List Int)} (h : Sq n A) {c i : Nat} (hc : c < n) (hi : i < n) (x y : Nat) : ent (bump A c i) x y = if c = x ∧ i = y then wrap64 (ent A c i + 1) else ent A x y := by
  unfold bump
  rw [ent_setR _ c i _ (by rw [h.len]; exact hc) (by rw [h.rows c hc]; exact hi)]
theorem grP_eq {n : Nat} {A : List (List Int)} (h : Sq n A) {p : List Nat} {i : Nat} (hi : i < n) (hp : ∀ c ∈ p, c < n) (hp8 : p.length ≤ 8) (h0 : ∀ x, x < n → ent A x i = 0) : ∀ k, k ≤ p.length → Sq n (grP p i A k) ∧ ∀ x y, x < n → y < n → ent (grP p i A k) x y = if y = i then (((p.take k).count x : Nat) : Int) else ent A x y
  | 0, _ => ⟨h, fun x y hx hy => by
    rw [grP]
    split
    · subst_vars; simpa using h0 x hx
    · rfl⟩
  | k + 1, hk => by
    obtain ⟨h1, h2⟩ := grP_eq h hi hp hp8 h0 k (by omega)
    have hc : at0 p k < n := hp _ (at0_mem (by omega))
    refine ⟨h1.set hc _, fun x y hx hy => ?_⟩
    rw [grP, ent_bump h1 hc hi, h2 _ _ hc hi, if_pos rfl, h2 x y hx hy]
    have ht : p.take (k + 1) = p.take k ++ [at0 p k] := by
      rw [at0_lt_of (by omega)]
      exact (List.take_append_getElem (by omega)).symm
    have h3 := List.count_le_length (l := p.take k) (a := at0 p k)
    have h4 : (p.take k).length ≤ 8 := by rw [List.length_take]; omega
    rw [ht, List.count_append]
    by_cases hy : y = i
    · subst hy
      by_cases hx : at0 p k = x
      · subst hx
        rw [if_pos ⟨rfl, rfl⟩, if_pos rfl, wrap_id (by omega)]
        simp
      · rw [if_neg (by omega), if_pos rfl, if_pos rfl]
        simp [hx]
    · rw [if_neg (by omega), if_neg hy, if_neg hy]
theorem grF_eq {V : List (List Nat)} (hV : WF V) : ∀ i, i ≤ V.length → Sq V.length (grF V i) ∧ ∀ x y, x < V.length → y < V.length → ent (grF V i) x y = if y < i then (((part V y).count x : Nat) : Int) else 0
  | 0, _ => by
    refine ⟨⟨by simp [grF], fun i hi => ?_⟩, fun x y hx hy => ?_⟩
    · unfold row grF; rw [List.getElem?_replicate, if_pos hi]; simp
    · rw [if_neg (by omega)]
      unfold ent row grF
      rw [List.getElem?_replicate, if_pos hx]
      simp only [Option.getD_some]
      rw [List.getElem?_replicate, if_pos hy]
      rfl
  | i + 1, hi => by
    obtain ⟨h1, h2⟩ := grF_eq hV i (by omega)
    obtain ⟨h3, h4⟩ := grP_eq h1 (p := part V i) (i := i) (by omega) (hV.part_le i).2 (hV.part_le i).1 (fun x hx => by rw [h2 x i hx (by omega), if_neg (by omega)]) (part V i).length (Nat.le_refl _)
    refine ⟨h3, fun x y hx hy => ?_⟩
    rw [grF, h4 x y hx hy, List.take_length]
    by_cases hyi : y = i
    · subst hyi; rw [if_pos rfl, if_pos (by omega)]
    · rw [if_neg hyi, h2 x y hx hy]
      by_cases hlt : y < i
      · rw [if_pos hlt, if_pos (by omega)]
      · rw [if_neg hlt, if_neg (by omega)]
theorem grows_cnt {V : List (List Nat)} (hV : WF V) : Sq V.length (growsM V) ∧ ent (growsM V) = ent (cntM V) := by
  obtain ⟨h1, h2⟩ := grF_eq hV V.length (Nat.le_refl _)
  refine ⟨h1, ?_⟩
  funext x y
  by_cases h : x < V.length ∧ y < V.length
  · rw [ent_cnt V h.1 h.2]
    show ent (grF V V.length) x y = _
    rw [h2 x y h.1 h.2, if_pos h.2]
  · rw [show ent (growsM V) x y = 0 from ent_out h1 h, ent_out (sq_cnt V) h]
/-- The program's coefficients. -/
def cofs (V : List (List Nat)) : List Int := (List.range V.length).map (coef (ent (cntM V)) V.length)
theorem recV_cofs {V : List (List Nat)} (hV : WF V) : recV V = cofs V := by
  obtain ⟨h1, h2⟩ := grows_cnt hV
  have h3 := (recF_eq hV.le hV.pos h1 (fun i j => by rw [h2]; exact ent_cnt_abs hV i j) V.length (Nat.le_refl _)).2.2
  unfold recV cofs
  rw [h3, h2]

/-- The sum over a list of lists. -/
def sumL (f : List Nat → Int) : List (List Nat) → Int
  | [] => 0
  | S :: L => f S + sumL f L
theorem sumL_append (f : List Nat → Int) : ∀ (L M : List (List Nat)), sumL f (L ++ M) = sumL f L + sumL f M
  | [], M => by simp [sumL]
  | S :: L, M => by rw [List.cons_append, sumL, sumL, sumL_append f L M]; omega
theorem sumL_map (f : List Nat → Int) (g : List Nat → List Nat) : ∀ (L : List (List Nat)), sumL f (L.map g) = sumL (fun S => f (g S)) L
  | [] => rfl
  | S :: L => by rw [List.map_cons, sumL, sumL, sumL_map f g L]
theorem sumL_perm (f : List Nat → Int) {L M : List (List Nat)} (h : L.Perm M) : sumL f L = sumL f M := by
  induction h with
  | nil => rfl
  | cons x _ ih => rw [sumL, sumL, ih]
  | swap x y l => rw [sumL, sumL, sumL, sumL]; omega
  | trans _ _ h1 h2 => rw [h1, h2]
def subs : List Nat → Nat → List (List Nat)
  | [], 0 => [[]]
  | [], _ + 1 => []
  | c :: l, 0 => [[]]
  | c :: l, k + 1 => (subs l k).map (c :: ·) ++ subs l (k + 1)
theorem sumS_subs : ∀ (l : List Nat) (k : Nat) (f : List Nat → Int), sumS f l k = sumL f (subs l k)
  | [], 0, f => by simp [sumS, subs, sumL]
  | [], k + 1, f => rfl
  | c :: l, 0, f => by simp [sumS, subs, sumL]
  | c :: l, k + 1, f => by
    rw [sumS, subs, sumL_append, sumL_map, sumS_subs l k (fun S => f (c :: S)), sumS_subs l (k + 1) f]
def bit1 (st p : Nat) : Bool := st / 2 ^ p % 2 == 1
def bitsF (st : Nat) : Nat → List Nat
  | 0 => []
  | p + 1 => if bit1 st p = true then bitsF st p ++ [p] else bitsF st p
theorem bitsF_lt (st : Nat) : ∀ p, ∀ c ∈ bitsF st p, c < p
  | 0, c, h => by cases h
  | p + 1, c, h => by
    rw [bitsF] at h
    split at h
    · rcases List.mem_append.1 h with h | h
      · have := bitsF_lt st p c h; omega
      · simp at h; omega
    · have := bitsF_lt st p c h; omega
theorem bitsF_len (st : Nat) : ∀ p, (bitsF st p).length ≤ p
  | 0 => Nat.le_refl _
  | p + 1 => by
    have := bitsF_len st p
    rw [bitsF]
    split
    · rw [List.length_append]; simp; exact this
    · omega
theorem subs_bits : ∀ n, n < 7 → ∀ k, k < 7 → (((List.range (2 ^ n)).map (fun st => bitsF st n)).filter (fun S => S.length == k)).isPerm (subs (List.range n) k) = true := by decide +kernel
/-- The sum over the sets below m of the minors of a size. -/
def pS (f : List Nat → Int) (n k : Nat) : Nat → Int
  | 0 => 0
  | m + 1 => pS f n k m + if (bitsF m n).length = k then f (bitsF m n) else 0
theorem pS_sumL (f : List Nat → Int) (n k : Nat) : ∀ m, pS f n k m = sumL f (((List.range m).map (fun st => bitsF st n)).filter (fun S => S.length == k))
  | 0 => rfl
  | m + 1 => by
    rw [pS, pS_sumL f n k m, List.range_succ, List.map_append, List.filter_append, sumL_append]
    congr 1
    by_cases h : (bitsF m n).length = k
    · rw [if_pos h]; simp [h, sumL]
    · rw [if_neg h]; simp [h, sumL]
theorem pS_all (f : List Nat → Int) {n k : Nat} (hn : n ≤ 6) (hk : k ≤ 6) : pS f n k (2 ^ n) = sumS f (List.range n) k := by
  rw [pS_sumL, sumS_subs]
  exact sumL_perm f (List.isPerm_iff.1 (subs_bits n (by omega) k (by omega)))
end Go.Proofs.YtilacamhjibneaaDoor
