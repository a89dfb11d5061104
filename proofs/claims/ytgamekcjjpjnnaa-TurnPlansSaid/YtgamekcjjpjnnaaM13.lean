/- The reference's sets of differences: its turned sets, what it joins, and when an hour fits. Plain facts. No condition. -/
import Derived.Test.YtgamekcjjpjnnaaM3
set_option linter.unusedVariables false
namespace Go.Proofs.Ytgamekcjjpjnnaa

/-- The reference's turned set. -/
theorem rt_trn {t s k : Nat} (ht : t ≤ 24) (hk : k < t) (hs : s < 2 ^ t) : ((s * 2 ^ k) ||| (s * 2 ^ k / 2 ^ t)) &&& (2 ^ t - 1) = trn t s k := by
  have hp := pow_small ht
  apply Nat.eq_of_testBit_eq
  intro h
  rw [trn_bit ht hk hs, Nat.testBit_and, Nat.testBit_or, Nat.testBit_two_pow_sub_one, Nat.testBit_mul_two_pow, Nat.testBit_div_two_pow, Nat.testBit_mul_two_pow]
  by_cases h1 : h < t
  · by_cases h2 : k ≤ h
    · have e2 : (h + t - k) % t = h - k := by
        rw [show h + t - k = (h - k) + t by omega, Nat.add_mod_right, Nat.mod_eq_of_lt (by omega)]
      have e3 : s.testBit (h + t - k) = false := testBit_ge hs (by omega)
      simp [h1, h2, e2, e3]
    · have e2 : (h + t - k) % t = h + t - k := Nat.mod_eq_of_lt (by omega)
      have e4 : k ≤ h + t := by omega
      simp [h1, h2, e2, e4]
  · simp [h1]

/-- What comes of one of a set and one of another one, of the first c ones. -/
def JB (T a b c bb : Nat) : Prop := bb < 2 ^ T ∧ ∀ g, g < T → (bb.testBit g = true ↔ ∃ h, h < c ∧ a.testBit h = true ∧ b.testBit (((g : Int) - (h : Int)) % (T : Int)).toNat = true)
theorem JB.zero {T a b : Nat} : JB T a b 0 0 := ⟨Nat.two_pow_pos _, fun g _ => by simp⟩
theorem JB.skip {T a b c bb : Nat} (h : JB T a b c bb) (hc : a.testBit c = false) : JB T a b (c + 1) bb :=
  ⟨h.1, fun g hg => (h.2 g hg).trans ⟨fun ⟨x, h1, h2⟩ => ⟨x, by omega, h2⟩, fun ⟨x, h1, h2, h3⟩ => ⟨x, (by
    rcases Nat.lt_succ_iff_lt_or_eq.1 h1 with h4 | h4
    · exact h4
    · rw [h4, hc] at h2; exact absurd h2 (by simp)), h2, h3⟩⟩⟩
theorem JB.take {T a b c bb : Nat} (h : JB T a b c bb) (hT0 : 0 < T) (hT : T ≤ 24) (hs : b < 2 ^ T) (hc : a.testBit c = true) (hcT : c < T) : JB T a b (c + 1) (bb ||| trn T b c) :=
  ⟨Nat.or_lt_two_pow h.1 (trn_lt hT), fun g hg => by
    have e := trn_mem (d := (c : Int)) hT0 hT hs hg
    rw [Int.emod_eq_of_lt (by omega) (by omega), Int.toNat_natCast] at e
    rw [Nat.testBit_or, e, Bool.or_eq_true, h.2 g hg]
    constructor
    · rintro (⟨x, h1, h2⟩ | h1)
      · exact ⟨x, by omega, h2⟩
      · exact ⟨c, by omega, hc, h1⟩
    · rintro ⟨x, h1, h2, h3⟩
      rcases Nat.lt_succ_iff_lt_or_eq.1 h1 with h4 | rfl
      · exact .inl ⟨x, h4, h2, h3⟩
      · exact .inr h3⟩
theorem JB.joint {T : Nat} {M : List Nat} {i k j b : Nat} (h : JB T (at6 M i k) (at6 M k j) T b) : Joint T M i k j T b := h

/-- Two sets with the same members. -/
theorem set_eq {T a b : Nat} (ha : a < 2 ^ T) (hb : b < 2 ^ T) (h : ∀ g, g < T → a.testBit g = b.testBit g) : a = b := by
  apply Nat.eq_of_testBit_eq
  intro g
  by_cases hg : g < T
  · exact h g hg
  · rw [testBit_ge ha (by omega), testBit_ge hb (by omega)]

/-- The hours from lo on, the first c ones, added one by one. -/
def FwdS (T : Nat) (lo : Int) (c : Nat) (x : Nat) : Prop := x < 2 ^ T ∧ ∀ g, g < T → (x.testBit g = true ↔ ((g : Int) - lo) % (T : Int) < c)
def BwdS (T : Nat) (lo : Int) (c : Nat) (x : Nat) : Prop := x < 2 ^ T ∧ ∀ g, g < T → (x.testBit g = true ↔ (-(g : Int) - lo) % (T : Int) < c)

theorem one_bit {k g : Nat} : (2 ^ k).testBit g = decide (k = g) := by rw [Nat.testBit_two_pow]
theorem emod_eq_iff {T : Nat} (hT : 0 < T) {x y : Int} (hx0 : 0 ≤ x) (hx : x < T) : x = y % (T : Int) ↔ ∃ q : Int, y = x + T * q := by
  constructor
  · intro h; exact ⟨y / T, by rw [h]; have := Int.emod_add_mul_ediv y (T : Int); omega⟩
  · rintro ⟨q, rfl⟩; rw [Int.add_mul_emod_self_left, Int.emod_eq_of_lt hx0 hx]

theorem FwdS.zero {T : Nat} {lo : Int} (hT : 0 < T) : FwdS T lo 0 0 := ⟨Nat.two_pow_pos _, fun g _ => by
  have := Int.emod_nonneg ((g : Int) - lo) (show (T : Int) ≠ 0 by omega)
  simp; omega⟩
theorem BwdS.zero {T : Nat} {lo : Int} (hT : 0 < T) : BwdS T lo 0 0 := ⟨Nat.two_pow_pos _, fun g _ => by
  have := Int.emod_nonneg (-(g : Int) - lo) (show (T : Int) ≠ 0 by omega)
  simp; omega⟩

theorem FwdS.step {T : Nat} {lo : Int} {c x : Nat} (h : FwdS T lo c x) (hT : 0 < T) (hc : c < T) : FwdS T lo (c + 1) (x ||| 2 ^ ((lo + c) % (T : Int)).toNat) := by
  have h1 := Int.emod_nonneg (lo + c) (show (T : Int) ≠ 0 by omega)
  have h2 := Int.emod_lt_of_pos (lo + c) (show (0 : Int) < T by omega)
  refine ⟨Nat.or_lt_two_pow h.1 (Nat.pow_lt_pow_right (by omega) (by omega)), fun g hg => ?_⟩
  rw [Nat.testBit_or, Bool.or_eq_true, h.2 g hg, one_bit, decide_eq_true_eq]
  have h3 := Int.emod_nonneg ((g : Int) - lo) (show (T : Int) ≠ 0 by omega)
  have h4 := Int.emod_lt_of_pos ((g : Int) - lo) (show (0 : Int) < T by omega)
  have key : ((lo + c) % (T : Int)).toNat = g ↔ ((g : Int) - lo) % (T : Int) = c := by
    have a := emod_eq_iff (T := T) hT (x := g) (y := lo + c) (by omega) (by omega)
    have b := emod_eq_iff (T := T) hT (x := c) (y := (g : Int) - lo) (by omega) (by omega)
    constructor
    · intro e
      obtain ⟨q, hq⟩ := a.1 (by omega)
      exact (b.2 ⟨-q, by rw [Int.mul_neg]; omega⟩).symm
    · intro e
      obtain ⟨q, hq⟩ := b.1 e.symm
      have := a.2 ⟨-q, by rw [Int.mul_neg]; omega⟩
      omega
  rw [key]
  omega
theorem BwdS.step {T : Nat} {lo : Int} {c x : Nat} (h : BwdS T lo c x) (hT : 0 < T) (hc : c < T) : BwdS T lo (c + 1) (x ||| 2 ^ (-(lo + c) % (T : Int)).toNat) := by
  have h1 := Int.emod_nonneg (-(lo + c)) (show (T : Int) ≠ 0 by omega)
  have h2 := Int.emod_lt_of_pos (-(lo + c)) (show (0 : Int) < T by omega)
  refine ⟨Nat.or_lt_two_pow h.1 (Nat.pow_lt_pow_right (by omega) (by omega)), fun g hg => ?_⟩
  rw [Nat.testBit_or, Bool.or_eq_true, h.2 g hg, one_bit, decide_eq_true_eq]
  have h3 := Int.emod_nonneg (-(g : Int) - lo) (show (T : Int) ≠ 0 by omega)
  have h4 := Int.emod_lt_of_pos (-(g : Int) - lo) (show (0 : Int) < T by omega)
  have key : (-(lo + c) % (T : Int)).toNat = g ↔ (-(g : Int) - lo) % (T : Int) = c := by
    have a := emod_eq_iff (T := T) hT (x := g) (y := -(lo + c)) (by omega) (by omega)
    have b := emod_eq_iff (T := T) hT (x := c) (y := -(g : Int) - lo) (by omega) (by omega)
    constructor
    · intro e
      obtain ⟨q, hq⟩ := a.1 (by omega)
      exact (b.2 ⟨q, by omega⟩).symm
    · intro e
      obtain ⟨q, hq⟩ := b.1 e.symm
      have := a.2 ⟨q, by omega⟩
      omega
  rw [key]
  omega

theorem FwdS.val {T : Nat} {lo hi : Int} {x : Nat} (hT0 : 0 < T) (hT : T ≤ 24) (h1 : lo ≤ hi) (h2 : hi ≤ lo + T - 1) (h : FwdS T lo (hi - lo + 1).toNat x) : x = trn T (2 ^ (hi - lo + 1).toNat - 1) (lo % (T : Int)).toNat :=
  set_eq h.1 (trn_lt hT) fun g hg => by
    rw [window_mem hT0 hT h1 h2 hg]
    have := h.2 g hg
    rw [Bool.eq_iff_iff, this, decide_eq_true_eq]
    omega
theorem BwdS.val {T : Nat} {lo hi : Int} {x : Nat} (hT0 : 0 < T) (hT : T ≤ 24) (h1 : lo ≤ hi) (h2 : hi ≤ lo + T - 1) (h : BwdS T lo (hi - lo + 1).toNat x) : x = trn T (2 ^ (hi - lo + 1).toNat - 1) (-hi % (T : Int)).toNat :=
  set_eq h.1 (trn_lt hT) fun g hg => by
    rw [window_back hT0 hT h1 h2 hg]
    have := h.2 g hg
    rw [Bool.eq_iff_iff, this, decide_eq_true_eq]
    omega

/-- The sets at the start: all differences, and 0 alone. -/
def initL (T : Nat) : List Nat := (List.range 36).map fun k => if k / 6 = k % 6 then 1 else 2 ^ T - 1
theorem initL_at {T i j : Nat} (hi : i < 6) (hj : j < 6) : at6 (initL T) i j = if i = j then 1 else 2 ^ T - 1 := by
  unfold at6 initL
  rw [List.getD_eq_getElem?_getD, List.getElem?_map, List.getElem?_range (by omega)]
  show (if (i * 6 + j) / 6 = (i * 6 + j) % 6 then 1 else 2 ^ T - 1) = _
  rw [show (i * 6 + j) / 6 = i by omega, show (i * 6 + j) % 6 = j by omega]
theorem initL_ok {T N : Nat} (hT : 0 < T) (hN : N ≤ 6) : InitM T N (initL T) N 0 := by
  have h0 := Nat.two_pow_pos T
  refine ⟨⟨by simp [initL], fun x hx => ?_⟩, fun i j hi hj _ => initL_at (by omega) (by omega)⟩
  unfold initL at hx
  obtain ⟨k, _, rfl⟩ := List.mem_map.1 hx
  split
  · exact Nat.one_lt_two_pow (by omega)
  · omega

/-- A row of the sets. -/
def rowM (M : List Nat) (N i : Nat) : List Value := (List.range N).map fun j => Value.int .i64 (at6 M i j : Nat)
theorem rowM_len {M : List Nat} {N i : Nat} : (rowM M N i).length = N := by simp [rowM]
theorem rowM_get {M : List Nat} {N i j : Nat} (hj : j < N) : (rowM M N i)[j]? = some (.int .i64 (at6 M i j : Nat)) := by
  unfold rowM
  rw [List.getElem?_map, List.getElem?_range hj]; rfl
theorem rowM_set {M : List Nat} {N i j v : Nat} (hM : M.length = 36) (hN : N ≤ 6) (hi : i < N) (hj : j < N) : rowM (M.set (i * 6 + j) v) N i = (rowM M N i).set j (.int .i64 (v : Nat)) := by
  apply List.ext_getElem?
  intro k
  by_cases hk : k < N
  · rw [rowM_get hk, at6_set (by omega) (by omega) hM _ (by omega) (by omega), List.getElem?_set]
    by_cases hkj : k = j
    · subst hkj; rw [if_pos ⟨rfl, rfl⟩, if_pos rfl, if_pos (by rw [rowM_len]; exact hk)]
    · rw [if_neg (by omega), if_neg (by omega), rowM_get hk]
  · rw [List.getElem?_eq_none (by rw [rowM_len]; omega), List.getElem?_eq_none (by rw [List.length_set, rowM_len]; omega)]
theorem rowM_other {M : List Nat} {N i j v i' : Nat} (hM : M.length = 36) (hN : N ≤ 6) (hi : i < N) (hj : j < N) (hi' : i' < N) (hne : i' ≠ i) : rowM (M.set (i * 6 + j) v) N i' = rowM M N i' := by
  unfold rowM
  apply List.map_congr_left
  intro k hk
  have := List.mem_range.1 hk
  rw [at6_set (by omega) (by omega) hM _ (by omega) (by omega), if_neg (by omega)]
theorem rowM_init {T N a : Nat} (hN : N ≤ 6) (ha : a < N) : rowM (initL T) N a = (List.replicate N (Value.int .i64 ((2 ^ T - 1 : Nat) : Int))).set a (.int .i64 1) := by
  apply List.ext_getElem?
  intro k
  by_cases hk : k < N
  · rw [rowM_get hk, initL_at (by omega) (by omega), List.getElem?_set]
    by_cases hka : a = k
    · subst hka; rw [if_pos rfl, if_pos rfl, if_pos (by simpa using hk)]; rfl
    · rw [if_neg hka, if_neg hka, List.getElem?_replicate, if_pos hk]
  · rw [List.getElem?_eq_none (by rw [rowM_len]; omega), List.getElem?_eq_none (by simp; omega)]

/-- May an hour be the one of the next event? -/
def fitB (T : Nat) (M : List Nat) (X : List Int) (h : Nat) : Prop :=
  (∀ k, k < X.length → (at6 M k X.length).testBit (((h : Int) - hr X k) % (T : Int)).toNat = true) ∧ (0 < X.length ∨ h = 0 ∧ at6 M 0 0 = 1)

theorem one_of_bit {a : Nat} (h : ∀ g, a.testBit g = true → g = 0) (h0 : a.testBit 0 = true) : a = 1 := by
  apply Nat.eq_of_testBit_eq
  intro g
  rcases Nat.eq_zero_or_pos g with rfl | hg
  · rw [h0]; rfl
  · have e : a.testBit g = false := by
      cases hb : a.testBit g with
      | false => rfl
      | true => have := h g hb; omega
    rw [e, Nat.testBit_lt_two_pow (Nat.one_lt_two_pow (by omega))]

theorem GoodX.fit {T N : Nat} {l : List Sp} {M : List Nat} {X : List Int} {h : Nat} (hX : GoodX T M X) (hA : ApartOk T N l M) (hT0 : 0 < T) (hh : h < T) (hn : X.length < N) (hf : fitB T M X h) : GoodX T M (X ++ [(h : Int)]) := by
  obtain ⟨f1, f2⟩ := hf
  refine ⟨hX.rng.snoc hh, fun k hk => ?_, fun j k hjk hk => ?_⟩
  · simp at hk
    by_cases hlt : k < X.length
    · rw [hr_append_lt hlt]; exact hX.first k hlt
    · obtain rfl : k = X.length := by omega
      rw [hr_append_new]
      rcases f2 with f2 | ⟨rfl, f2⟩
      · have h0 : (hr X 0).toNat = 0 := hA.diag 0 (by omega) _ (hX.first 0 f2)
        obtain ⟨r1, r2⟩ := hX.rng 0 f2
        have := f1 0 f2
        rwa [show hr X 0 = 0 by omega, Int.sub_zero, Int.emod_eq_of_lt (by omega) (by omega)] at this
      · cases hl : X.length with
        | zero => rw [f2]; rfl
        | succ m =>
          have h0 : (hr X 0).toNat = 0 := hA.diag 0 (by omega) _ (hX.first 0 (by omega))
          obtain ⟨r1, r2⟩ := hX.rng 0 (by omega)
          have := f1 0 (by omega)
          rw [show hr X 0 = 0 by omega, Int.sub_zero, Int.emod_eq_of_lt (by omega) (by omega), hl] at this
          exact this
  · simp at hk
    rw [hr_append_lt (show j < X.length by omega)]
    by_cases hlt : k < X.length
    · rw [hr_append_lt hlt]; exact hX.pair j k hjk hlt
    · obtain rfl : k = X.length := by omega
      rw [hr_append_new]; exact f1 j hjk

theorem nofit {T N m : Nat} {l : List Sp} {M : List Nat} {X : List Int} {h : Nat} (hA : ApartOk T N l M) (hX : InRound T X) (hT0 : 0 < T) (hm : X.length + (m + 1) = N) (hh : h < T)
    (hf : ¬ fitB T M X h) : plansFrom T l m (X ++ [(h : Int)]) = [] := by
  rw [List.eq_nil_iff_forall_not_mem]
  intro Y hY
  obtain ⟨y1, y2, y3, y4⟩ := mem_plansFrom (hX.snoc hh) hY
  simp at y1
  have hK := okPlan_keeps (N := N) (by omega) y2 y3
  have hz := okPlan_zero y3
  have h2 := y4 X.length (by simp)
  rw [hr_append_new] at h2
  refine hf ⟨fun k hk => ?_, ?_⟩
  · have h1 := hA.sound Y hK k X.length (by omega) (by omega)
    unfold diff at h1
    rwa [h2, y4 k (by simp; omega), hr_append_lt hk] at h1
  · rcases Nat.eq_zero_or_pos X.length with h0 | h0
    · rw [h0, hz] at h2
      refine .inr ⟨by omega, one_of_bit (hA.diag 0 (by omega)) ?_⟩
      have h1 := hA.sound Y hK 0 0 (by omega) (by omega)
      unfold diff at h1
      simpa using h1
    · exact .inl h0

/-- The first of the lists of lists. -/
theorem plansFrom_none {T m : Nat} {l : List Sp} {X : List Int} (h : ∀ h' : Nat, h' < T → plansFrom T l m (X ++ [(h' : Int)]) = []) : plansFrom T l (m + 1) X = [] := by
  unfold plansFrom
  rw [List.flatMap_eq_nil_iff]
  exact fun x hx => h x (List.mem_range.1 hx)

theorem range_split {T h : Nat} (hh : h < T) : List.range T = List.range h ++ h :: (List.range' (h + 1) (T - h - 1)) := by
  rw [List.range_eq_range', List.range_eq_range', show T = h + (T - h) by omega, ← List.range'_append_1, show h + (T - h) - h - 1 = (T - h) - 1 by omega, Nat.zero_add]
  congr 1
  obtain ⟨k, hk⟩ : ∃ k, T - h = k + 1 := ⟨T - h - 1, by omega⟩
  rw [hk, List.range'_succ]; rfl

theorem plansFrom_head {T m : Nat} {l : List Sp} {X Y : List Int} {h : Nat} (hno : ∀ h' : Nat, h' < h → plansFrom T l m (X ++ [(h' : Int)]) = []) (hh : h < T)
    (hY : (plansFrom T l m (X ++ [(h : Int)])).head? = some Y) : (plansFrom T l (m + 1) X).head? = some Y := by
  unfold plansFrom
  rw [range_split hh, List.flatMap_append, List.flatMap_eq_nil_iff.2 (fun x hx => hno x (List.mem_range.1 hx)), List.nil_append, List.flatMap_cons, List.head?_append, hY]
  rfl

/-- The plans behind the hours from h on. -/
def restFrom (T : Nat) (l : List Sp) (m : Nat) (X : List Int) (h : Nat) : List (List Int) := (List.range' h (T - h)).flatMap fun (h : Nat) => plansFrom T l m (X ++ [(h : Int)])
theorem rest_zero {T m : Nat} {l : List Sp} {X : List Int} : restFrom T l m X 0 = plansFrom T l (m + 1) X := by
  unfold restFrom
  rw [plansFrom, List.range_eq_range', Nat.sub_zero]
theorem rest_step {T m : Nat} {l : List Sp} {X : List Int} {h : Nat} (hh : h < T) : restFrom T l m X h = plansFrom T l m (X ++ [(h : Int)]) ++ restFrom T l m X (h + 1) := by
  unfold restFrom
  obtain ⟨k, hk⟩ : ∃ k, T - h = k + 1 := ⟨T - h - 1, by omega⟩
  rw [hk, List.range'_succ, List.flatMap_cons, show T - (h + 1) = k by omega]
theorem rest_end {T m : Nat} {l : List Sp} {X : List Int} : restFrom T l m X T = [] := by unfold restFrom; simp
end Go.Proofs.Ytgamekcjjpjnnaa
