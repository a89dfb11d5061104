/- A fence is a bridge exactly if its posts do not hang together without it. Plain. -/
import Derived.Test.YtmmpdfcnenljhaaF24
set_option linter.unusedVariables false
namespace Go.Proofs.Ytmmpdfcnenljhaa

/-- The labels say which posts hang together. -/
def KOf (N : Nat) (p : List Fe) (G : List Int) : Prop := G.length = N ∧ ∀ i j : Nat, i < N → j < N → (hr G i = hr G j ↔ Con p i j)
def InN (N : Nat) (f : Fe) : Prop := 0 ≤ f.a ∧ f.a < N ∧ 0 ≤ f.b ∧ f.b < N

theorem con_nil {x y : Int} : Con [] x y ↔ x = y := by
  constructor
  · intro h
    exact h (fun z => x = z) rfl fun g hg => by simp [und] at hg
  · rintro rfl; exact Rch.refl _ _
theorem KOf.init (N : Nat) : KOf N [] (initG N) := by
  refine ⟨initG_len N, fun i j hi hj => ?_⟩
  rw [initG_hr hi, initG_hr hj, con_nil]

theorem KOf.hr_iff {N : Nat} {p : List Fe} {G : List Int} (h : KOf N p G) {i : Nat} (hi : i < N) {x : Int} (h0 : 0 ≤ x) (h1 : x < N) : hr G i = hr G x.toNat ↔ Con p i x := by
  have := h.2 i x.toNat hi (by omega)
  rwa [Int.toNat_of_nonneg h0] at this

theorem KOf.step {N : Nat} {p : List Fe} {G : List Int} {m : Int} (h : KOf N p G) {s : Fe} (hs : InN N s) :
    KOf N (s :: p) (grpStep false (G, m) s).1 ∧ (grpStep false (G, m) s).2 = m - ind (¬ Con p s.a s.b) := by
  obtain ⟨a0, a1, b0, b1⟩ := hs
  have hab : hr G s.a.toNat = hr G s.b.toNat ↔ Con p s.a s.b := by
    have := h.hr_iff (i := s.a.toNat) (by omega) b0 b1
    rwa [Int.toNat_of_nonneg a0] at this
  unfold grpStep
  dsimp only
  by_cases hc : hr G s.a.toNat = hr G s.b.toNat
  · rw [if_pos hc]
    have hcon := hab.1 hc
    refine ⟨⟨h.1, fun i j hi hj => ?_⟩, by rw [ind_no (by simpa using hcon)]; simp⟩
    rw [h.2 i j hi hj, Con.cons_iff]
    constructor
    · intro h; exact .inl h
    · rintro (h | ⟨h1, h2⟩ | ⟨h1, h2⟩)
      · exact h
      · exact (Rch.trans h1 hcon).trans h2
      · exact (Rch.trans h1 hcon.symm).trans h2
  · rw [if_neg hc]
    have hncon : ¬ Con p s.a s.b := fun hk => hc (hab.2 hk)
    simp only [Bool.false_eq_true, if_false]
    refine ⟨⟨by rw [mergeG_len]; exact h.1, fun i j hi hj => ?_⟩, by rw [ind_yes hncon]; rfl⟩
    rw [mergeG_hr (by rw [h.1]; exact hi), mergeG_hr (by rw [h.1]; exact hj), Con.cons_iff]
    have ia := h.hr_iff hi a0 a1; have ib := h.hr_iff hi b0 b1
    have ja := h.hr_iff hj a0 a1; have jb := h.hr_iff hj b0 b1
    have ij := h.2 i j hi hj
    by_cases h1 : hr G i = hr G s.b.toNat
    · rw [if_pos h1]
      by_cases h2 : hr G j = hr G s.b.toNat
      · rw [if_pos h2]
        exact ⟨fun _ => .inl (ij.1 (h1.trans h2.symm)), fun _ => rfl⟩
      · rw [if_neg h2]
        constructor
        · intro h3
          exact .inr (.inr ⟨ib.1 h1, (ja.1 h3.symm).symm⟩)
        · rintro (h3 | ⟨h3, h4⟩ | ⟨h3, h4⟩)
          · exact (h2 ((ij.2 h3).symm.trans h1)).elim
          · exact (h2 (jb.2 (Con.symm h4))).elim
          · exact (ja.2 (Con.symm h4)).symm
    · rw [if_neg h1]
      by_cases h2 : hr G j = hr G s.b.toNat
      · rw [if_pos h2]
        constructor
        · intro h3
          exact .inr (.inl ⟨ia.1 h3, (jb.1 h2).symm⟩)
        · rintro (h3 | ⟨h3, h4⟩ | ⟨h3, h4⟩)
          · exact (h1 ((ij.2 h3).trans h2)).elim
          · exact ia.2 h3
          · exact (h1 (ib.2 h3)).elim
      · rw [if_neg h2]
        constructor
        · intro h3; exact .inl (ij.1 h3)
        · rintro (h3 | ⟨h3, h4⟩ | ⟨h3, h4⟩)
          · exact ij.2 h3
          · exact (h2 (jb.2 (Con.symm h4))).elim
          · exact (h1 (ib.2 h3)).elim

/-- Which of two fences comes first does not matter for the number of groups. -/
theorem rank_swap (p : List Fe) (f s : Fe) : ind (¬ Con (s :: p) f.a f.b) + ind (¬ Con p s.a s.b) = ind (¬ Con p f.a f.b) + ind (¬ Con (f :: p) s.a s.b) := by
  by_cases hf : Con p f.a f.b
  · have h1 : Con (s :: p) f.a f.b := Con.cons_iff.2 (.inl hf)
    rw [ind_no (by simpa using h1), ind_no (p := ¬ Con p f.a f.b) (by simpa using hf)]
    congr 1
    refine ind_iff (not_congr ?_)
    rw [Con.cons_iff]
    constructor
    · intro h; exact .inl h
    · rintro (h | ⟨h2, h3⟩ | ⟨h2, h3⟩)
      · exact h
      · exact (Rch.trans h2 hf).trans h3
      · exact (Rch.trans h2 hf.symm).trans h3
  · rw [ind_yes (p := ¬ Con p f.a f.b) hf]
    by_cases hs : Con p s.a s.b
    · have h1 : Con (f :: p) s.a s.b := Con.cons_iff.2 (.inl hs)
      rw [ind_no (p := ¬ Con p s.a s.b) (by simpa using hs), ind_no (p := ¬ Con (f :: p) s.a s.b) (by simpa using h1), ind_yes]
      rw [Con.cons_iff]
      rintro (h | ⟨h2, h3⟩ | ⟨h2, h3⟩)
      · exact hf h
      · exact hf ((Rch.trans h2 hs).trans h3)
      · exact hf ((Rch.trans h2 hs.symm).trans h3)
    · rw [ind_yes (p := ¬ Con p s.a s.b) hs, Nat.add_comm]
      congr 1
      refine ind_iff (not_congr ?_)
      rw [Con.cons_iff, Con.cons_iff]
      constructor
      · rintro (h | ⟨h2, h3⟩ | ⟨h2, h3⟩)
        · exact (hf h).elim
        · exact .inr (.inl ⟨Con.symm h2, Con.symm h3⟩)
        · exact .inr (.inr ⟨h3, h2⟩)
      · rintro (h | ⟨h2, h3⟩ | ⟨h2, h3⟩)
        · exact (hs h).elim
        · exact .inr (.inl ⟨Con.symm h2, Con.symm h3⟩)
        · exact .inr (.inr ⟨h3, h2⟩)

/-- Two runs side by side: the second one has had f first. -/
theorem runs_two (N : Nat) (f : Fe) : ∀ (r p : List Fe) (A B : List Int × Int), (∀ s ∈ r, InN N s) → KOf N p A.1 → KOf N (f :: p) B.1 → A.2 - B.2 = ind (¬ Con p f.a f.b) →
    (r.foldl (grpStep false) A).2 - (r.foldl (grpStep false) B).2 = ind (¬ Con (r.reverse ++ p) f.a f.b)
  | [], p, A, B, _, _, _, h => h
  | s :: r, p, (GA, mA), (GB, mB), hr, hA, hB, h => by
    have hs := hr s List.mem_cons_self
    obtain ⟨a1, a2⟩ := hA.step (m := mA) hs
    obtain ⟨b1, b2⟩ := hB.step (m := mB) hs
    have hsw := rank_swap p f s
    have b1' : KOf N (f :: s :: p) (grpStep false (GB, mB) s).1 := by
      refine ⟨b1.1, fun i j hi hj => (b1.2 i j hi hj).trans ?_⟩
      have : ∀ x, x ∈ und (s :: f :: p) ↔ x ∈ und (f :: s :: p) := fun x => by rw [mem_und, mem_und]; simp only [List.mem_cons]; grind
      exact ⟨fun h => h.mono fun x hx => (this x).1 hx, fun h => h.mono fun x hx => (this x).2 hx⟩
    rw [List.foldl_cons, List.foldl_cons, List.reverse_cons, List.append_assoc]
    refine runs_two N f r (s :: p) _ _ (fun x hx => hr x (List.mem_cons_of_mem _ hx)) a1 b1' ?_
    rw [a2, b2]
    have h' : mA - mB = (ind (¬ Con p f.a f.b) : Nat) := h
    omega

theorem gS_fold (N : Nat) (l : List Fe) (S : Nat) : ∀ k, k ≤ l.length → (∀ i, i < k → S.testBit i = true) → gS false N l S k = (l.take k).foldl (grpStep false) (initG N, (N : Int))
  | 0, _, _ => by rw [List.take_zero]; rfl
  | k + 1, h, hb => by
    rw [gS, if_pos (hb k (by omega)), gS_fold N l S k (by omega) fun i hi => hb i (by omega), List.take_succ_eq_append_getElem (by omega), List.foldl_append, getD_lt (by omega)]
    rfl
theorem gS_skip (N : Nat) (f : Fe) (r : List Fe) (S : Nat) (h0 : S.testBit 0 = false) : ∀ k, k ≤ r.length → (∀ i, i < k → S.testBit (i + 1) = true) → gS false N (f :: r) S (k + 1) = (r.take k).foldl (grpStep false) (initG N, (N : Int))
  | 0, _, _ => by
    rw [List.take_zero, gS, if_neg (by rw [h0]; decide)]
    rfl
  | k + 1, h, hb => by
    rw [gS, if_pos (hb k (by omega)), gS_skip N f r S h0 k (by omega) fun i hi => hb i (by omega), List.take_succ_eq_append_getElem (by omega), List.foldl_append, getD_lt (by simp; omega)]
    rfl

theorem bridge_iff {N : Nat} {f : Fe} {r : List Fe} (hv : Valid N (f :: r)) : bridgeB N (f :: r) 0 = true ↔ ¬ Con r f.a f.b := by
  have hin : ∀ s ∈ f :: r, InN N s := fun s hs => hv.ok s hs
  have e1 : groupsV N (f :: r) (allV (f :: r)) = (r.foldl (grpStep false) (grpStep false (initG N, (N : Int)) f)).2 := by
    unfold groupsV
    rw [gS_fold N (f :: r) _ _ (Nat.le_refl _) fun i hi => by
      unfold allV
      rw [Nat.testBit_two_pow_sub_one]
      exact decide_eq_true hi, List.take_length]
    rfl
  have e2 : groupsV N (f :: r) (allV (f :: r) - 2 ^ 0) = (r.foldl (grpStep false) (initG N, (N : Int))).2 := by
    unfold groupsV
    have hS : allV (f :: r) - 2 ^ 0 = 2 * (2 ^ r.length - 1) := by
      unfold allV
      rw [List.length_cons, Nat.pow_succ]
      have := Nat.two_pow_pos r.length
      omega
    rw [hS, List.length_cons, gS_skip N f r _ (by rw [Nat.testBit_zero]; simp) r.length (Nat.le_refl _) fun i hi => by
      rw [Nat.testBit_succ, Nat.mul_div_cancel_left _ (by omega), Nat.testBit_two_pow_sub_one]
      exact decide_eq_true hi, List.take_length]
  have hst := (KOf.init N).step (m := (N : Int)) (hin f List.mem_cons_self)
  have key := runs_two N f r [] (initG N, (N : Int)) (grpStep false (initG N, (N : Int)) f) (fun s hs => hin s (List.mem_cons_of_mem _ hs)) (KOf.init N) hst.1 (by rw [hst.2]; show (N : Int) - (N - _) = _; omega)
  have hrev : Con (r.reverse ++ []) f.a f.b ↔ Con r f.a f.b := by
    have : ∀ x, x ∈ und (r.reverse ++ []) ↔ x ∈ und r := fun x => by rw [mem_und, mem_und]; simp
    exact ⟨fun h => h.mono fun x hx => (this x).1 hx, fun h => h.mono fun x hx => (this x).2 hx⟩
  unfold bridgeB
  rw [decide_eq_true_eq, e1, e2]
  rw [ind_iff (not_congr hrev)] at key
  by_cases hc : Con r f.a f.b
  · rw [ind_no (by simpa using hc)] at key
    constructor
    · intro h; omega
    · intro h; exact (h hc).elim
  · rw [ind_yes hc] at key
    exact ⟨fun _ => hc, fun _ => by omega⟩
end Go.Proofs.Ytmmpdfcnenljhaa
