/- All plans in order, a search that leaves out what cannot be a plan, and a visitor of plans. Plain facts. No condition. -/
import Derived.Test.YtgamekcjjpjnnaaM2
set_option linter.unusedVariables false
namespace Go.Proofs.Ytgamekcjjpjnnaa

/-- Do hours begin with 0 and keep all spans? -/
def okPlan (T : Nat) (l : List Sp) (X : List Int) : Bool := decide (hr X 0 = 0 ∧ ∀ s ∈ l, (hr X s.dst.toNat - hr X s.src.toNat - s.lo) % (T : Int) ≤ s.hi - s.lo)

/-- The plans that begin with some hours, m hours more, in order. -/
def plansFrom (T : Nat) (l : List Sp) : Nat → List Int → List (List Int)
  | 0, X => if okPlan T l X then [X] else []
  | m + 1, X => (List.range T).flatMap fun (h : Nat) => plansFrom T l m (X ++ [(h : Int)])

/-- All plans. -/
def plans (T N : Nat) (l : List Sp) : List (List Int) := plansFrom T l N []

/-- Hours in the round. -/
def InRound (T : Nat) (X : List Int) : Prop := ∀ i, i < X.length → 0 ≤ hr X i ∧ hr X i < T

theorem hr_append_lt {X : List Int} {Y : List Int} {i : Nat} (h : i < X.length) : hr (X ++ Y) i = hr X i := by
  unfold hr
  rw [List.getD_eq_getElem?_getD, List.getD_eq_getElem?_getD, List.getElem?_append_left h]
theorem hr_append_new {X : List Int} {h : Int} : hr (X ++ [h]) X.length = h := by
  unfold hr
  simp [List.getD_eq_getElem?_getD]

theorem InRound.snoc {T : Nat} {X : List Int} (hX : InRound T X) {h : Nat} (hh : h < T) : InRound T (X ++ [(h : Int)]) := fun i hi => by
  simp at hi
  by_cases hlt : i < X.length
  · rw [hr_append_lt hlt]; exact hX i hlt
  · obtain rfl : i = X.length := by omega
    rw [hr_append_new]; omega

/-- What is in the list. -/
theorem mem_plansFrom {T : Nat} {l : List Sp} {m : Nat} : ∀ {X Y : List Int}, InRound T X → Y ∈ plansFrom T l m X → Y.length = X.length + m ∧ InRound T Y ∧ okPlan T l Y = true ∧ ∀ i, i < X.length → hr Y i = hr X i := by
  induction m with
  | zero =>
    intro X Y hX hY
    unfold plansFrom at hY
    split at hY
    · rename_i h
      obtain rfl : Y = X := by simpa using hY
      exact ⟨rfl, hX, h, fun _ _ => rfl⟩
    · cases hY
  | succ m ih =>
    intro X Y hX hY
    unfold plansFrom at hY
    obtain ⟨h, hh, hY⟩ := List.mem_flatMap.1 hY
    obtain ⟨h1, h2, h3, h4⟩ := ih (hX.snoc (List.mem_range.1 hh)) hY
    simp at h1 h4
    exact ⟨by omega, h2, h3, fun i hi => by rw [h4 i (by omega), hr_append_lt hi]⟩

theorem mem_plansFrom_of {T : Nat} {l : List Sp} {m : Nat} : ∀ {X Y : List Int}, Y.length = X.length + m → InRound T Y → okPlan T l Y = true → (∀ i, i < X.length → hr Y i = hr X i) → Y ∈ plansFrom T l m X := by
  induction m with
  | zero =>
    intro X Y h1 h2 h3 h4
    have e : Y = X := by
      apply List.ext_getElem (by omega)
      intro i hi hi'
      have := h4 i hi'
      unfold hr at this
      simpa [List.getD_eq_getElem?_getD, List.getElem?_eq_getElem hi, List.getElem?_eq_getElem hi'] using this
    subst e
    unfold plansFrom
    rw [if_pos h3]
    simp
  | succ m ih =>
    intro X Y h1 h2 h3 h4
    obtain ⟨r1, r2⟩ := h2 X.length (by omega)
    unfold plansFrom
    refine List.mem_flatMap.2 ⟨(hr Y X.length).toNat, List.mem_range.2 (by omega), ih (by simp; omega) h2 h3 fun i hi => ?_⟩
    simp at hi
    by_cases hlt : i < X.length
    · rw [hr_append_lt hlt, h4 i hlt]
    · obtain rfl : i = X.length := by omega
      rw [hr_append_new]; omega

theorem okPlan_keeps {T N : Nat} {l : List Sp} {Y : List Int} (h1 : Y.length = N) (h2 : InRound T Y) (h3 : okPlan T l Y = true) : Keeps T N l Y := by
  unfold okPlan at h3
  rw [decide_eq_true_eq] at h3
  exact ⟨h1, fun i hi => h2 i (by omega), h3.2⟩
theorem okPlan_zero {T : Nat} {l : List Sp} {Y : List Int} (h3 : okPlan T l Y = true) : hr Y 0 = 0 := by
  unfold okPlan at h3
  rw [decide_eq_true_eq] at h3
  exact h3.1

/-- What is left for the events from X.length on. -/
structure LeftOk (T N : Nat) (M : List Nat) (X : List Int) (L : List Nat) : Prop where
  len : L.length = 6
  small : ∀ x ∈ L, x < 2 ^ T
  bit : ∀ k, X.length ≤ k → k < N → ∀ h, h < T → ((L.getD k 0).testBit h = true ↔ (at6 M 0 k).testBit h = true ∧ ∀ j, j < X.length → (at6 M j k).testBit (((h : Int) - hr X j) % (T : Int)).toNat = true)

/-- The hours so far fit together. -/
structure GoodX (T : Nat) (M : List Nat) (X : List Int) : Prop where
  rng : InRound T X
  first : ∀ k, k < X.length → (at6 M 0 k).testBit (hr X k).toNat = true
  pair : ∀ j k, j < k → k < X.length → (at6 M j k).testBit (((hr X k) - hr X j) % (T : Int)).toNat = true

theorem GoodX.nil {T : Nat} {M : List Nat} : GoodX T M [] := ⟨fun i hi => by simp at hi, fun k hk => by simp at hk, fun j k _ hk => by simp at hk⟩

theorem LeftOk.start {T N : Nat} {l : List Sp} {M : List Nat} (h : ApartOk T N l M) (hN : N ≤ 6) : LeftOk T N M [] (M.take 6) :=
  ⟨by simp [h.small.1], fun x hx => h.small.2 x (List.mem_of_mem_take hx), fun k _ hk x hx => by
    have e : (M.take 6).getD k 0 = at6 M 0 k := by unfold at6; simp [List.getD_eq_getElem?_getD, show k < 6 by omega]
    rw [e]; simp⟩

theorem GoodX.snoc {T N : Nat} {M : List Nat} {X : List Int} {L : List Nat} (hX : GoodX T M X) (hL : LeftOk T N M X L) {h : Nat} (hh : h < T) (hn : X.length < N) (hb : (L.getD X.length 0).testBit h = true) :
    GoodX T M (X ++ [(h : Int)]) := by
  obtain ⟨b1, b2⟩ := (hL.bit X.length (Nat.le_refl _) hn h hh).1 hb
  refine ⟨hX.rng.snoc hh, fun k hk => ?_, fun j k hjk hk => ?_⟩
  · simp at hk
    by_cases hlt : k < X.length
    · rw [hr_append_lt hlt]; exact hX.first k hlt
    · obtain rfl : k = X.length := by omega
      rw [hr_append_new]; simpa using b1
  · simp at hk
    rw [hr_append_lt (show j < X.length by omega)]
    by_cases hlt : k < X.length
    · rw [hr_append_lt hlt]; exact hX.pair j k hjk hlt
    · obtain rfl : k = X.length := by omega
      rw [hr_append_new]; exact b2 j hjk

/-- Fully chosen: it is a plan. -/
theorem GoodX.ok {T N : Nat} {l : List Sp} {M : List Nat} {X : List Int} (hX : GoodX T M X) (hA : ApartOk T N l M) (hlen : X.length = N) (hN0 : 1 ≤ N) (hT0 : 0 < T)
    (hok : ∀ s ∈ l, 0 ≤ s.src ∧ s.src < N ∧ 0 ≤ s.dst ∧ s.dst < N ∧ s.src ≠ s.dst) : okPlan T l X = true := by
  unfold okPlan
  rw [decide_eq_true_eq]
  have h0 : (hr X 0).toNat = 0 := hA.diag 0 (by omega) _ (hX.first 0 (by omega))
  obtain ⟨r1, r2⟩ := hX.rng 0 (by omega)
  refine ⟨by omega, fun s hs => ?_⟩
  obtain ⟨o1, o2, o3, o4, o5⟩ := hok s hs
  obtain ⟨t1, t2⟩ := hA.tight s hs
  have key : ∀ i j : Nat, (((hr X i - hr X j) % (T : Int)).toNat : Int) = (hr X i - hr X j) % (T : Int) := fun i j => by
    have := Int.emod_nonneg (hr X i - hr X j) (show (T : Int) ≠ 0 by omega)
    omega
  have lt : ∀ i j : Nat, ((hr X i - hr X j) % (T : Int)).toNat < T := fun i j => by
    have h1 := Int.emod_nonneg (hr X i - hr X j) (show (T : Int) ≠ 0 by omega)
    have h2 := Int.emod_lt_of_pos (hr X i - hr X j) (show (0 : Int) < T by omega)
    omega
  by_cases hlt : s.src.toNat < s.dst.toNat
  · have h1 := t1 _ (lt _ _) (hX.pair s.src.toNat s.dst.toNat hlt (by omega))
    rw [key, Int.sub_emod, Int.emod_emod_of_dvd _ (Int.dvd_refl _), ← Int.sub_emod] at h1
    exact h1
  · have h1 := t2 _ (lt _ _) (hX.pair s.dst.toNat s.src.toNat (by omega) (by omega))
    rw [key] at h1
    have e := Int.emod_add_mul_ediv (hr X s.src.toNat - hr X s.dst.toNat) (T : Int)
    rw [show -((hr X s.src.toNat - hr X s.dst.toNat) % (T : Int)) - s.lo = (hr X s.dst.toNat - hr X s.src.toNat - s.lo) + (T : Int) * ((hr X s.src.toNat - hr X s.dst.toNat) / (T : Int)) by omega, Int.add_mul_emod_self_left] at h1
    exact h1

/-- Each plan that begins so is among what is left. -/
theorem LeftOk.covers {T N m : Nat} {l : List Sp} {M : List Nat} {X Y : List Int} {L : List Nat} (hL : LeftOk T N M X L) (hA : ApartOk T N l M) (hX : InRound T X) (hT0 : 0 < T) (hm : X.length + m = N)
    (hY : Y ∈ plansFrom T l m X) {k : Nat} (hk1 : X.length ≤ k) (hk : k < N) : (L.getD k 0).testBit (hr Y k).toNat = true := by
  obtain ⟨y1, y2, y3, y4⟩ := mem_plansFrom hX hY
  have hK := okPlan_keeps (N := N) (by omega) y2 y3
  have h0 := okPlan_zero y3
  obtain ⟨r1, r2⟩ := y2 k (by omega)
  refine (hL.bit k hk1 hk _ (by omega)).2 ⟨?_, fun j hj => ?_⟩
  · have h1 := hA.sound Y hK 0 k (by omega) hk
    unfold diff at h1
    rw [h0, Int.sub_zero, Int.emod_eq_of_lt r1 r2] at h1
    exact h1
  · have h1 := hA.sound Y hK j k (by omega) hk
    unfold diff at h1
    rw [← y4 j hj, show ((hr Y k).toNat : Int) = hr Y k by omega]
    exact h1

theorem prune_bit {T N m : Nat} {l : List Sp} {M : List Nat} {X : List Int} {L : List Nat} (hL : LeftOk T N M X L) (hA : ApartOk T N l M) (hX : InRound T X) (hT0 : 0 < T) (hm : X.length + (m + 1) = N)
    {h : Nat} (hh : h < T) (hb : (L.getD X.length 0).testBit h = false) : plansFrom T l m (X ++ [(h : Int)]) = [] := by
  rw [List.eq_nil_iff_forall_not_mem]
  intro Y hY
  have hY' : Y ∈ plansFrom T l (m + 1) X := by
    unfold plansFrom
    exact List.mem_flatMap.2 ⟨h, List.mem_range.2 hh, hY⟩
  have h1 := hL.covers hA hX hT0 hm hY' (Nat.le_refl _) (by omega)
  obtain ⟨_, _, _, y4⟩ := mem_plansFrom (hX.snoc hh) hY
  have h2 := y4 X.length (by simp)
  rw [h2, hr_append_new, Int.toNat_natCast, hb] at h1
  cases h1

theorem prune_zero {T N m : Nat} {l : List Sp} {M : List Nat} {X : List Int} {L : List Nat} (hL : LeftOk T N M X L) (hA : ApartOk T N l M) (hX : InRound T X) (hT0 : 0 < T) (hm : X.length + m = N)
    {k : Nat} (hk1 : X.length ≤ k) (hk : k < N) (hb : L.getD k 0 = 0) : plansFrom T l m X = [] := by
  rw [List.eq_nil_iff_forall_not_mem]
  intro Y hY
  have h1 := hL.covers hA hX hT0 hm hY hk1 hk
  rw [hb] at h1
  simp at h1

/-- While the sets of the later events are made smaller: those before k are done. -/
structure RestOk (T N : Nat) (M : List Nat) (X : List Int) (h : Nat) (L R : List Nat) (k : Nat) : Prop where
  len : R.length = 6
  small : ∀ x ∈ R, x < 2 ^ T
  done : ∀ g, X.length < g → g < k → R.getD g 0 = L.getD g 0 &&& trn T (at6 M X.length g) ((h : Int) % (T : Int)).toNat
  same : ∀ g, k ≤ g → R.getD g 0 = L.getD g 0

theorem RestOk.start {T N : Nat} {M : List Nat} {X : List Int} {h : Nat} {L : List Nat} (hL : LeftOk T N M X L) : RestOk T N M X h L L (X.length + 1) := ⟨hL.len, hL.small, fun g h1 h2 => absurd h1 (by omega), fun _ _ => rfl⟩
theorem RestOk.step {T N : Nat} {M : List Nat} {X : List Int} {h : Nat} {L R : List Nat} {k : Nat} (hR : RestOk T N M X h L R k) (hk : k < 6) (hT : T ≤ 24) :
    RestOk T N M X h L (R.set k (R.getD k 0 &&& trn T (at6 M X.length k) ((h : Int) % (T : Int)).toNat)) (k + 1) := by
  have hlen := hR.len
  refine ⟨by simp [hlen], fun x hx => ?_, fun g h1 h2 => ?_, fun g hg => ?_⟩
  · rcases List.mem_or_eq_of_mem_set hx with h' | rfl
    · exact hR.small x h'
    · exact Nat.and_lt_two_pow _ (trn_lt hT)
  · rw [List.getD_eq_getElem?_getD, List.getElem?_set]
    by_cases hgk : k = g
    · subst hgk
      rw [if_pos rfl, if_pos (by omega), Option.getD_some, hR.same k (Nat.le_refl _)]
    · rw [if_neg hgk, ← List.getD_eq_getElem?_getD]
      exact hR.done g h1 (by omega)
  · rw [List.getD_eq_getElem?_getD, List.getElem?_set, if_neg (by omega), ← List.getD_eq_getElem?_getD]
    exact hR.same g (by omega)

theorem RestOk.left {T N : Nat} {l : List Sp} {M : List Nat} {X : List Int} {h : Nat} {L R : List Nat} (hR : RestOk T N M X h L R N) (hL : LeftOk T N M X L) (hA : ApartOk T N l M) (hT0 : 0 < T) (hT : T ≤ 24) (hN : N ≤ 6) (hh : h < T) :
    LeftOk T N M (X ++ [(h : Int)]) R := by
  refine ⟨hR.len, hR.small, fun k hk1 hk g hg => ?_⟩
  simp at hk1
  rw [hR.done k (by omega) hk, Nat.testBit_and, Bool.and_eq_true, hL.bit k (by omega) hk g hg, trn_mem hT0 hT (hA.small.at (by omega) (by omega)) hg]
  constructor
  · rintro ⟨⟨b1, b2⟩, b3⟩
    refine ⟨b1, fun j hj => ?_⟩
    simp at hj
    by_cases hlt : j < X.length
    · rw [hr_append_lt hlt]; exact b2 j hlt
    · obtain rfl : j = X.length := by omega
      rw [hr_append_new]; exact b3
  · rintro ⟨b1, b2⟩
    refine ⟨⟨b1, fun j hj => ?_⟩, ?_⟩
    · have := b2 j (by simp; omega)
      rwa [hr_append_lt hj] at this
    · have := b2 X.length (by simp)
      rwa [hr_append_new] at this

/-- What has become 0 on the way: nothing begins so. -/
theorem RestOk.none {T N m : Nat} {l : List Sp} {M : List Nat} {X : List Int} {h : Nat} {L R : List Nat} {k : Nat} (hR : RestOk T N M X h L R (k + 1)) (hL : LeftOk T N M X L) (hA : ApartOk T N l M) (hX : InRound T X)
    (hT0 : 0 < T) (hT : T ≤ 24) (hN : N ≤ 6) (hh : h < T) (hk1 : X.length < k) (hk : k < N) (hm : X.length + (m + 1) = N) (h0 : R.getD k 0 = 0) : plansFrom T l m (X ++ [(h : Int)]) = [] := by
  rw [List.eq_nil_iff_forall_not_mem]
  intro Y hY
  have hY' : Y ∈ plansFrom T l (m + 1) X := by
    unfold plansFrom
    exact List.mem_flatMap.2 ⟨h, List.mem_range.2 hh, hY⟩
  have h1 := hL.covers hA hX hT0 hm hY' (show X.length ≤ k by omega) hk
  obtain ⟨y1, y2, y3, y4⟩ := mem_plansFrom (hX.snoc hh) hY
  simp at y1
  have hK := okPlan_keeps (N := N) (by omega) y2 y3
  obtain ⟨r1, r2⟩ := y2 k (by omega)
  have h2 : (R.getD k 0).testBit (hr Y k).toNat = true := by
    rw [hR.done k hk1 (by omega), Nat.testBit_and, h1, Bool.true_and, trn_mem hT0 hT (hA.small.at (by omega) (by omega)) (by omega)]
    have h3 := hA.sound Y hK X.length k (by omega) hk
    unfold diff at h3
    rw [y4 X.length (by simp), hr_append_new] at h3
    rw [show ((hr Y k).toNat : Int) = hr Y k by omega]
    exact h3
  rw [h0] at h2
  simp at h2

/-- A visitor: it is shown plan after plan until it answers true. -/
def runV {σ : Type} (step : σ → List Int → Bool × σ) : List (List Int) → σ → Bool × σ
  | [], s => (false, s)
  | X :: r, s => if (step s X).1 = true then step s X else runV step r (step s X).2

theorem runV_append {σ : Type} (step : σ → List Int → Bool × σ) (a b : List (List Int)) : ∀ s, runV step (a ++ b) s = if (runV step a s).1 = true then runV step a s else runV step b (runV step a s).2 := by
  induction a with
  | nil => intro s; simp [runV]
  | cons X a ih =>
    intro s
    simp only [List.cons_append, runV]
    by_cases h : (step s X).1 = true
    · simp [h]
    · simp only [h, ih]
      rfl
end Go.Proofs.Ytgamekcjjpjnnaa
