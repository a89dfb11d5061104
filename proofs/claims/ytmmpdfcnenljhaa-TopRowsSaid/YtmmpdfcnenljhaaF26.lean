/- The polynomial at 2, 0 and at 0, 2 counts the directions without rings, and those in which every fence is in a ring. Plain. -/
import Derived.Test.YtmmpdfcnenljhaaF25
set_option linter.unusedVariables false
namespace Go.Proofs.Ytmmpdfcnenljhaa

theorem getD_of {T : List Int} {i : Nat} {x : Int} (h : T[i]? = some x) : T.getD i 0 = x := by rw [List.getD_eq_getElem?_getD, h]; rfl
theorem timesY_get (T : List Int) (hT : T.length = 225) (j i : Nat) (hj : j < 15) (hi : i < 15) :
    (List.replicate 15 0 ++ T.take 210).getD (j * 15 + i) 0 = if j = 0 then 0 else T.getD ((j - 1) * 15 + i) 0 := by
  by_cases h : j = 0
  · subst h
    rw [if_pos rfl]
    exact getD_of (by rw [List.getElem?_append_left (by simp; omega), List.getElem?_replicate, if_pos (by omega)])
  · rw [if_neg h, List.getD_eq_getElem?_getD, List.getElem?_append_right (by simp; omega), List.length_replicate, List.getElem?_take, if_pos (by omega), show j * 15 + i - 15 = (j - 1) * 15 + i by omega, List.getD_eq_getElem?_getD]
theorem timesX_get (T : List Int) (j i : Nat) (hj : j < 15) (hi : i < 15) : (xrows T 15).getD (j * 15 + i) 0 = if i = 0 then 0 else T.getD (j * 15 + (i - 1)) 0 := by
  rw [List.getD_eq_getElem?_getD, xrows_get, if_pos (by omega)]
  by_cases h : i = 0
  · subst h
    rw [if_pos rfl, if_neg (by omega)]; rfl
  · rw [if_neg h, if_pos (by omega), show j * 15 + i - 1 = j * 15 + (i - 1) by omega]; rfl
theorem plus_get (T U : List Int) (k : Nat) (hk : k < 225) : (plusTo T U 225).getD k 0 = T.getD k 0 + U.getD k 0 := by
  rw [List.getD_eq_getElem?_getD, plusTo_get, if_pos hk, if_pos hk]; rfl

/-- No power beyond d. -/
def Deg (T : List Int) (d : Nat) : Prop := ∀ j i, j < 15 → i < 15 → d < j + i → T.getD (j * 15 + i) 0 = 0
theorem polyV_deg (N : Nat) : ∀ m l, Deg (polyV N m l) m
  | 0, l => by
    intro j i hj hi h
    rw [polyV]
    obtain ⟨k, hk⟩ : ∃ k, j * 15 + i = k + 1 := ⟨j * 15 + i - 1, by omega⟩
    rw [hk, List.getD_cons_succ, List.getD_eq_getElem?_getD, List.getElem?_replicate]
    split <;> rfl
  | m + 1, [] => by
    intro j i hj hi h
    rw [polyV]
    obtain ⟨k, hk⟩ : ∃ k, j * 15 + i = k + 1 := ⟨j * 15 + i - 1, by omega⟩
    rw [hk, List.getD_cons_succ, List.getD_eq_getElem?_getD, List.getElem?_replicate]
    split <;> rfl
  | m + 1, f :: r => by
    intro j i hj hi h
    have h1 := polyV_deg N m r
    have h2 := polyV_deg N m (r.map (closeFe f))
    rw [polyV]
    by_cases hab : f.b = f.a
    · rw [if_pos hab, timesY_get _ (polyV_len N m r) j i hj hi]
      split
      · rfl
      · exact h1 (j - 1) i (by omega) hi (by omega)
    · rw [if_neg hab]
      by_cases hb : bridgeB N (f :: r) 0 = true
      · rw [if_pos hb, timesX_get _ j i hj hi]
        split
        · rfl
        · exact h2 j (i - 1) hj (by omega) (by omega)
      · rw [if_neg hb, plus_get _ _ _ (by omega), h1 j i hj hi (by omega), h2 j i hj hi (by omega)]; rfl

theorem rowH_zero (T : List Int) (x : Int) (j : Nat) (h : ∀ i, i < 15 → T.getD (j * 15 + i) 0 = 0) : ∀ c, c ≤ 15 → rowH T x j c = 0
  | 0, _ => rfl
  | c + 1, hc => by rw [rowH, rowH_zero T x j h c (by omega), h _ (by omega)]; simp
theorem rowH_congr (T U : List Int) (x : Int) (j k : Nat) (h : ∀ i, i < 15 → T.getD (j * 15 + i) 0 = U.getD (k * 15 + i) 0) : ∀ c, c ≤ 15 → rowH T x j c = rowH U x k c
  | 0, _ => rfl
  | c + 1, hc => by rw [rowH, rowH, rowH_congr T U x j k h c (by omega), h _ (by omega)]
theorem rowH_x (T : List Int) (x : Int) (j : Nat) (hj : j < 15) (h : T.getD (j * 15 + 14) 0 = 0) : ∀ c, c ≤ 14 → rowH (xrows T 15) x j c = rowH T x j (c + 1)
  | 0, _ => by rw [rowH, rowH, rowH, h]; simp
  | c + 1, hc => by
    rw [rowH, rowH_x T x j hj h c (by omega), timesX_get T j _ hj (by omega), if_neg (by omega), show 14 - c - 1 = 14 - (c + 1) by omega]
    rfl
theorem rowH_plus (T U : List Int) (x : Int) (j : Nat) (hj : j < 15) : ∀ c, c ≤ 15 → rowH (plusTo T U 225) x j c = rowH T x j c + rowH U x j c
  | 0, _ => rfl
  | c + 1, hc => by
    rw [rowH, rowH, rowH, rowH_plus T U x j hj c (by omega), plus_get _ _ _ (by omega), Int.add_mul]
    omega

theorem atV_timesY (T : List Int) (hT : T.length = 225) (hd : Deg T 13) (x y : Int) : atV (List.replicate 15 0 ++ T.take 210) x y = y * atV T x y := by
  have hrow : ∀ j, 1 ≤ j → j < 15 → rowH (List.replicate 15 0 ++ T.take 210) x j 15 = rowH T x (j - 1) 15 := fun j h1 hj =>
    rowH_congr _ _ x j (j - 1) (fun i hi => by rw [timesY_get T hT j i hj hi, if_neg (by omega)]) 15 (Nat.le_refl _)
  have key : ∀ d, d ≤ 14 → atH (List.replicate 15 0 ++ T.take 210) x y d = atH T x y (d + 1) := by
    intro d
    induction d with
    | zero =>
      intro _
      rw [atH, atH, atH, rowH_zero T x 14 (fun i hi => hd 14 i (by omega) hi (by omega)) 15 (Nat.le_refl _)]
      simp
    | succ d ih =>
      intro h
      rw [atH, ih (by omega), hrow (14 - d) (by omega) (by omega), show 14 - d - 1 = 14 - (d + 1) by omega]
      rfl
  unfold atV
  rw [atH, key 14 (Nat.le_refl _), rowH_zero _ x (14 - 14) (fun i hi => by rw [timesY_get T hT (14 - 14) i (by omega) hi, if_pos (by omega)]) 15 (Nat.le_refl _), Int.mul_comm, Int.add_zero]
theorem atV_timesX (T : List Int) (hd : Deg T 13) (x y : Int) : atV (xrows T 15) x y = x * atV T x y := by
  have hrow : ∀ j, j < 15 → rowH (xrows T 15) x j 15 = rowH T x j 15 * x := fun j hj => by
    rw [rowH, rowH_x T x j hj (hd j 14 hj (by omega) (by omega)) 14 (Nat.le_refl _), timesX_get T j _ hj (by omega), if_pos (by omega), Int.add_zero]
  have key : ∀ d, d ≤ 15 → atH (xrows T 15) x y d = x * atH T x y d := by
    intro d
    induction d with
    | zero => intro _; rw [atH, atH]; simp
    | succ d ih =>
      intro h
      rw [atH, atH, ih (by omega), hrow _ (by omega), Int.mul_add, Int.mul_assoc, Int.mul_comm (rowH _ _ _ _) x]
  exact key 15 (Nat.le_refl _)
theorem atV_plus (T U : List Int) (x y : Int) : atV (plusTo T U 225) x y = atV T x y + atV U x y := by
  have key : ∀ d, d ≤ 15 → atH (plusTo T U 225) x y d = atH T x y d + atH U x y d := by
    intro d
    induction d with
    | zero => intro _; rfl
    | succ d ih =>
      intro h
      rw [atH, atH, atH, ih (by omega), rowH_plus T U x _ (by omega) 15 (Nat.le_refl _), Int.add_mul]
      omega
  exact key 15 (Nat.le_refl _)

theorem Deg.mono {T : List Int} {d d' : Nat} (h : Deg T d) (hd : d ≤ d') : Deg T d' := fun j i hj hi hk => h j i hj hi (by omega)

theorem tutte_nil (N : Nat) (x y : Int) : tutte N [] x y = 1 := by
  have hz : ∀ i, (List.replicate 224 (0 : Int)).getD i 0 = 0 := fun i => by rw [List.getD_eq_getElem?_getD, List.getElem?_replicate]; split <;> rfl
  have h0 : ∀ i, (1 :: List.replicate 224 (0 : Int)).getD (i + 1) 0 = 0 := fun i => by rw [List.getD_cons_succ]; exact hz i
  unfold tutte
  rw [List.length_nil, polyV]
  unfold atV
  have hr : ∀ c, c ≤ 14 → rowH (1 :: List.replicate 224 0) x 0 c = 0 := by
    intro c
    induction c with
    | zero => intro _; rfl
    | succ c ih => intro h; rw [rowH, ih (by omega), show 0 * 15 + (14 - c) = (13 - c) + 1 by omega, h0]; simp
  have ha : ∀ d, d ≤ 14 → atH (1 :: List.replicate 224 0) x y d = 0 := by
    intro d
    induction d with
    | zero => intro _; rfl
    | succ d ih =>
      intro h
      rw [atH, ih (by omega), rowH_zero _ x (14 - d) (fun i hi => by rw [show (14 - d) * 15 + i = ((14 - d) * 15 + i - 1) + 1 by omega]; exact h0 _) 15 (Nat.le_refl _)]
      simp
  rw [atH, ha 14 (Nat.le_refl _), show 14 - 14 = 0 from rfl, rowH, hr 14 (Nat.le_refl _), Int.zero_mul, Int.zero_mul, Int.zero_add, Int.zero_add, show 0 * 15 + (14 - 14) = 0 from rfl, List.getD_cons_zero]

theorem tutte_cons (N : Nat) (f : Fe) (r : List Fe) (hr : r.length ≤ 9) (x y : Int) :
    tutte N (f :: r) x y = if f.b = f.a then y * tutte N r x y else if bridgeB N (f :: r) 0 = true then x * tutte N (r.map (closeFe f)) x y else tutte N r x y + tutte N (r.map (closeFe f)) x y := by
  unfold tutte
  rw [List.length_map, List.length_cons, polyV]
  by_cases h : f.b = f.a
  · rw [if_pos h, if_pos h, atV_timesY _ (polyV_len _ _ _) ((polyV_deg N _ r).mono (by omega))]
  · rw [if_neg h, if_neg h]
    by_cases hb : bridgeB N (f :: r) 0 = true
    · rw [if_pos hb, if_pos hb, atV_timesX _ ((polyV_deg N _ _).mono (by omega))]
    · rw [if_neg hb, if_neg hb, atV_plus]

theorem tutte_free (N : Nat) : ∀ (m : Nat) (l : List Fe), l.length = m → m ≤ 10 → Valid N l → tutte N l 2 0 = (cntO Acy l : Nat) ∧ tutte N l 0 2 = (cntO Cyc l : Nat)
  | 0, l, hl, _, hv => by
    obtain rfl : l = [] := List.length_eq_zero_iff.1 hl
    rw [tutte_nil, tutte_nil, cntO, cntO, ind_yes (p := Acy []) (fun e he => by simp at he), ind_yes (p := Cyc []) (fun e he => by simp at he)]
    exact ⟨rfl, rfl⟩
  | m + 1, [], hl, _, hv => by simp at hl
  | m + 1, f :: r, hl, hm, hv => by
    simp only [List.length_cons, Nat.add_right_cancel_iff] at hl
    obtain ⟨i1, i2⟩ := tutte_free N m r hl (by omega) hv.tail
    obtain ⟨j1, j2⟩ := tutte_free N m (r.map (closeFe f)) (by rw [List.length_map]; exact hl) (by omega) hv.closed
    rw [tutte_cons N f r (by omega), tutte_cons N f r (by omega), i1, i2, j1, j2]
    by_cases h : f.b = f.a
    · rw [if_pos h, if_pos h, acy_loop_cnt h, cyc_loop_cnt h]
      constructor
      · simp
      · simp
    · rw [if_neg h, if_neg h]
      by_cases hb : bridgeB N (f :: r) 0 = true
      · have hc := (bridge_iff hv).1 hb
        rw [if_pos hb, if_pos hb, acy_bridge_cnt h hc, cyc_bridge_cnt hc]
        constructor
        · simp
        · simp
      · have hc : Con r f.a f.b := Classical.byContradiction fun hk => hb ((bridge_iff hv).2 hk)
        rw [if_neg hb, if_neg hb, acy_cnt h, cyc_cnt hc]
        constructor
        · simp
        · simp
theorem cntO_le (l : List Fe) : ∀ P : List Fe → Prop, cntO P l ≤ 2 ^ l.length := by
  induction l with
  | nil => intro P; unfold cntO ind; split <;> simp
  | cons f r ih =>
    intro P
    have h1 := ih fun E => P (f :: E)
    have h2 := ih fun E => P (f.flip :: E)
    rw [cntO, List.length_cons, Nat.pow_succ]
    omega

/-- Fences in the directions of a set. -/
def orient : List Fe → Nat → List Fe
  | [], _ => []
  | f :: r, S => (if S.testBit 0 then f.flip else f) :: orient r (S / 2)
theorem orient_len : ∀ (l : List Fe) (S : Nat), (orient l S).length = l.length
  | [], _ => rfl
  | f :: r, S => by rw [orient, List.length_cons, List.length_cons, orient_len]
theorem orient_get : ∀ (l : List Fe) (S i : Nat) (h : i < l.length), (orient l S)[i]? = some (if S.testBit i then l[i].flip else l[i])
  | f :: r, S, 0, h => by rw [orient]; rfl
  | f :: r, S, i + 1, h => by
    rw [orient, List.getElem?_cons_succ, orient_get r (S / 2) i (by simpa using h), Nat.testBit_succ]
    rfl
/-- How many of the first n sets meet a condition. -/
noncomputable def cntS (p : Nat → Prop) : Nat → Nat
  | 0 => 0
  | n + 1 => cntS p n + ind (p n)
theorem cntS_two (p : Nat → Prop) : ∀ n, cntS p (2 * n) = cntS (fun s => p (2 * s)) n + cntS (fun s => p (2 * s + 1)) n
  | 0 => rfl
  | n + 1 => by
    rw [show 2 * (n + 1) = 2 * n + 1 + 1 by omega, cntS, cntS, cntS_two p n, cntS, cntS]
    omega
theorem cntS_congr {p q : Nat → Prop} (h : ∀ s, p s ↔ q s) : ∀ n, cntS p n = cntS q n
  | 0 => rfl
  | n + 1 => by rw [cntS, cntS, cntS_congr h n, ind_iff (h n)]
theorem cntS_cntO : ∀ (l : List Fe) (P : List Fe → Prop), cntS (fun S => P (orient l S)) (2 ^ l.length) = cntO P l
  | [], P => by
    rw [List.length_nil, Nat.pow_zero, cntS, cntS, cntO]
    show 0 + ind (P []) = _
    omega
  | f :: r, P => by
    rw [List.length_cons, Nat.pow_succ, Nat.mul_comm, cntS_two, cntO]
    congr 1
    · rw [← cntS_cntO r]
      refine cntS_congr (fun s => ?_) _
      rw [orient, if_neg (by rw [Nat.testBit_zero]; simp), Nat.mul_div_cancel_left _ (by omega)]
    · rw [← cntS_cntO r]
      refine cntS_congr (fun s => ?_) _
      rw [orient, if_pos (by rw [Nat.testBit_zero]; simp), show (2 * s + 1) / 2 = s by omega]
theorem cntS_le (p : Nat → Prop) : ∀ n, cntS p n ≤ n
  | 0 => Nat.le_refl _
  | n + 1 => by
    have := cntS_le p n
    rw [cntS]
    unfold ind
    split <;> omega
/-- What Gates answers. -/
theorem gates_value {N : Nat} {l : List Fe} (h : gardenE N l = 0) (hl : l.length ≤ 10) :
    (valueE N l 2 0).1 = (cntS (fun S => Acy (orient l S)) (2 ^ l.length) : Nat) ∧ (valueE N l 0 2).1 = (cntS (fun S => Cyc (orient l S)) (2 ^ l.length) : Nat) := by
  obtain ⟨h1, h2⟩ := tutte_free N l.length l rfl hl (valid_of h)
  have hp : 2 ^ l.length ≤ 2 ^ 10 := Nat.pow_le_pow_right (by omega) hl
  have k1 := cntO_le l Acy
  have k2 := cntO_le l Cyc
  rw [valueE_ok h, valueE_ok h, h1, h2, cntS_cntO l Acy, cntS_cntO l Cyc]
  exact ⟨wrap64_nat _ (by omega), wrap64_nat _ (by omega)⟩
end Go.Proofs.Ytmmpdfcnenljhaa
