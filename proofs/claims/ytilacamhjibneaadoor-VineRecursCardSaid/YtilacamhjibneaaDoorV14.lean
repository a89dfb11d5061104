/- Which parts come of which: the search, in plain Lean. No condition. -/
import Derived.Test.YtilacamhjibneaaDoorV13
set_option linter.unusedVariables false
namespace Go.Proofs.YtilacamhjibneaaDoor
open Go.RowKit

/-- The first k letters of a part: those that are new are put at the end. -/
def bfsP (p : List Nat) (todo : List Nat) (R : List Bool) : Nat → List Nat × List Bool
  | 0 => (todo, R)
  | k + 1 => if atB (bfsP p todo R k).2 (at0 p k) = true then bfsP p todo R k else ((bfsP p todo R k).1 ++ [at0 p k], (bfsP p todo R k).2.set (at0 p k) true)
def bfsF (V : List (List Nat)) : Nat → List Nat → List Bool → List Bool
  | 0, _, R => R
  | _ + 1, [], R => R
  | f + 1, x :: todo, R => bfsF V f (bfsP (part V x) (x :: todo) R (part V x).length).1.tail (bfsP (part V x) (x :: todo) R (part V x).length).2
def comesR (V : List (List Nat)) (i : Nat) : List Bool := bfsF V V.length [i] ((List.replicate V.length false).set i true)
def comesM (V : List (List Nat)) : List (List Bool) := (List.range V.length).map (comesR V)
def cm (M : List (List Bool)) (i j : Nat) : Bool := atB (M[i]?.getD []) j

/-- How many are not there. -/
def nf : List Bool → Nat
  | [] => 0
  | true :: r => nf r
  | false :: r => nf r + 1
theorem nf_le : ∀ R : List Bool, nf R ≤ R.length
  | [] => Nat.le_refl _
  | true :: r => by have := nf_le r; simp [nf]; omega
  | false :: r => by have := nf_le r; simp [nf]; omega
theorem nf_set : ∀ (R : List Bool) (i : Nat), i < R.length → atB R i = false → nf (R.set i true) + 1 = nf R
  | [], i, h, _ => by simp at h
  | x :: r, 0, _, h => by
    unfold atB at h
    simp at h
    subst h
    rfl
  | x :: r, i + 1, hi, h => by
    have hr : atB r i = false := by unfold atB at *; simpa using h
    have ih := nf_set r i (by simpa using hi) hr
    rw [List.set_cons_succ]
    cases x
    · show nf (r.set i true) + 1 + 1 = nf r + 1
      omega
    · show nf (r.set i true) + 1 = nf r
      exact ih
theorem nf_fresh (n i : Nat) (h : i < n) : nf ((List.replicate n false).set i true) + 1 = n := by
  rw [nf_set _ _ (by simpa using h) (by unfold atB; rw [List.getElem?_replicate, if_pos h]; rfl)]
  induction n with
  | zero => omega
  | succ n ih =>
    rw [List.replicate_succ]
    show nf (List.replicate n false) + 1 = n + 1
    cases n with
    | zero => rfl
    | succ m =>
      have : ∀ k : Nat, nf (List.replicate k false) = k := fun k => by
        induction k with
        | zero => rfl
        | succ k ih => rw [List.replicate_succ]; show nf (List.replicate k false) + 1 = k + 1; rw [ih]
      rw [this]

/-- What is true throughout the letters of a part. -/
structure BP (n : Nat) (p todo : List Nat) (R : List Bool) (s : List Nat × List Bool) (k : Nat) : Prop where
  len : s.2.length = n
  pre : ∃ more, s.1 = todo ++ more ∧ (∀ c ∈ more, c ∈ p.take k ∧ c < n)
  meas : s.1.length + nf s.2 = todo.length + nf R
  mono : ∀ j, atB R j = true → atB s.2 j = true
  new : ∀ j, atB s.2 j = true → atB R j = true ∨ (j ∈ s.1 ∧ j ∈ p.take k)
  got : ∀ j, j ∈ p.take k → atB s.2 j = true
theorem bfsP_inv {n : Nat} {p todo : List Nat} {R : List Bool} (hp : ∀ c ∈ p, c < n) (hR : R.length = n) : ∀ k, k ≤ p.length → BP n p todo R (bfsP p todo R k) k
  | 0, _ => ⟨hR, ⟨[], by simp [bfsP], by simp⟩, rfl, fun _ h => h, fun _ h => .inl h, by simp⟩
  | k + 1, hk => by
    have hkl : k < p.length := by omega
    have ih := bfsP_inv (todo := todo) hp hR k (by omega)
    have hc := hp _ (List.getElem_mem hkl)
    have ht : p.take (k + 1) = p.take k ++ [p[k]] := List.take_succ_eq_append_getElem hkl
    have ha : at0 p k = p[k] := at0_lt_of hkl
    unfold bfsP
    rw [ha]
    obtain ⟨s, hs⟩ : ∃ s, bfsP p todo R k = s := ⟨_, rfl⟩
    rw [hs] at ih ⊢
    by_cases h : atB s.2 p[k] = true
    · rw [if_pos h]
      refine ⟨ih.len, ?_, ih.meas, ih.mono, ?_, ?_⟩
      · obtain ⟨more, h1, h2⟩ := ih.pre
        exact ⟨more, h1, fun c hc => ⟨by rw [ht]; exact List.mem_append_left _ (h2 c hc).1, (h2 c hc).2⟩⟩
      · intro j hj
        rcases ih.new j hj with h1 | ⟨h1, h2⟩
        · exact .inl h1
        · exact .inr ⟨h1, by rw [ht]; exact List.mem_append_left _ h2⟩
      · intro j hj
        rw [ht] at hj
        rcases List.mem_append.1 hj with hj | hj
        · exact ih.got j hj
        · simp at hj; subst hj; exact h
    · rw [if_neg h]
      have hf : atB s.2 p[k] = false := by simpa using h
      refine ⟨by rw [List.length_set]; exact ih.len, ?_, ?_, ?_, ?_, ?_⟩
      · obtain ⟨more, h1, h2⟩ := ih.pre
        refine ⟨more ++ [p[k]], by show s.1 ++ [p[k]] = _; rw [h1, List.append_assoc], fun c hcm => ?_⟩
        rw [ht]
        rcases List.mem_append.1 hcm with hcm | hcm
        · exact ⟨List.mem_append_left _ (h2 c hcm).1, (h2 c hcm).2⟩
        · simp at hcm; subst hcm; exact ⟨List.mem_append_right _ (by simp), hc⟩
      · have := nf_set s.2 p[k] (by rw [ih.len]; exact hc) hf
        have := ih.meas
        show (s.1 ++ [p[k]]).length + nf (s.2.set p[k] true) = _
        rw [List.length_append, List.length_singleton]
        omega
      · intro j hj
        show atB (s.2.set p[k] true) j = true
        rw [atB_set _ _ _ _ (by rw [ih.len]; exact hc)]
        split
        · rfl
        · exact ih.mono j hj
      · intro j hj
        have hj' : atB (s.2.set p[k] true) j = true := hj
        rw [atB_set _ _ _ _ (by rw [ih.len]; exact hc)] at hj'
        by_cases hjk : p[k] = j
        · subst hjk
          exact .inr ⟨List.mem_append_right _ (by simp), by rw [ht]; exact List.mem_append_right _ (by simp)⟩
        · rw [if_neg hjk] at hj'
          rcases ih.new j hj' with h1 | ⟨h1, h2⟩
          · exact .inl h1
          · exact .inr ⟨List.mem_append_left _ h1, by rw [ht]; exact List.mem_append_left _ h2⟩
      · intro j hj
        show atB (s.2.set p[k] true) j = true
        rw [atB_set _ _ _ _ (by rw [ih.len]; exact hc)]
        split
        · rfl
        · rename_i hne
          rw [ht] at hj
          rcases List.mem_append.1 hj with hj | hj
          · exact ih.got j hj
          · simp at hj; exact absurd hj.symm hne

/-- One can come from i to j. -/
inductive Path (V : List (List Nat)) (i : Nat) : Nat → Prop
  | refl : Path V i i
  | step {j c : Nat} : Path V i j → c ∈ part V j → Path V i c
theorem Path.trans {V : List (List Nat)} {i j k : Nat} (h : Path V i j) (h' : Path V j k) : Path V i k := by
  induction h' with
  | refl => exact h
  | step _ hc ih => exact ih.step hc

/-- What is true at each look at the queue. -/
structure BF (V : List (List Nat)) (i : Nat) (todo : List Nat) (R : List Bool) : Prop where
  len : R.length = V.length
  self : atB R i = true
  path : ∀ j, atB R j = true → Path V i j
  inn : ∀ j ∈ todo, atB R j = true ∧ j < V.length
  open_ : ∀ j, atB R j = true → j ∈ todo ∨ ∀ c ∈ part V j, atB R c = true
theorem BF.step {V : List (List Nat)} (hV : WF V) {i x : Nat} {todo : List Nat} {R : List Bool} (h : BF V i (x :: todo) R) :
    BF V i (bfsP (part V x) (x :: todo) R (part V x).length).1.tail (bfsP (part V x) (x :: todo) R (part V x).length).2 ∧
      (bfsP (part V x) (x :: todo) R (part V x).length).1.tail.length + 1 + nf (bfsP (part V x) (x :: todo) R (part V x).length).2 = (x :: todo).length + nf R := by
  have hp := (hV.part_le x).2
  have inv := bfsP_inv (todo := x :: todo) hp h.len (part V x).length (Nat.le_refl _)
  obtain ⟨s, hs⟩ : ∃ s, bfsP (part V x) (x :: todo) R (part V x).length = s := ⟨_, rfl⟩
  rw [hs] at inv ⊢
  obtain ⟨more, h1, h2⟩ := inv.pre
  have htl : s.1.tail = todo ++ more := by rw [h1]; rfl
  have hx := h.inn x (by simp)
  refine ⟨⟨inv.len, inv.mono _ h.self, ?_, ?_, ?_⟩, ?_⟩
  · intro j hj
    rcases inv.new j hj with hj | ⟨_, hj⟩
    · exact h.path j hj
    · rw [List.take_length] at hj
      exact (h.path x hx.1).step hj
  · intro j hj
    rw [htl] at hj
    rcases List.mem_append.1 hj with hj | hj
    · have := h.inn j (by simp [hj])
      exact ⟨inv.mono _ this.1, this.2⟩
    · exact ⟨inv.got j (h2 j hj).1, (h2 j hj).2⟩
  · intro j hj
    rw [htl]
    rcases inv.new j hj with hj' | ⟨hj', _⟩
    · rcases h.open_ j hj' with ho | ho
      · rcases List.mem_cons.1 ho with rfl | ho
        · exact .inr (fun c hc => inv.got c (by rw [List.take_length]; exact hc))
        · exact .inl (List.mem_append_left _ ho)
      · exact .inr (fun c hc => inv.mono c (ho c hc))
    · rw [h1] at hj'
      rcases List.mem_append.1 hj' with hj' | hj'
      · rcases List.mem_cons.1 hj' with rfl | hj'
        · exact .inr (fun c hc => inv.got c (by rw [List.take_length]; exact hc))
        · exact .inl (List.mem_append_left _ hj')
      · exact .inl (List.mem_append_right _ hj')
  · have hm := inv.meas
    have hl : s.1.length = s.1.tail.length + 1 := by rw [h1]; simp
    omega

theorem bfsF_inv {V : List (List Nat)} (hV : WF V) {i : Nat} : ∀ (f : Nat) (todo : List Nat) (R : List Bool), BF V i todo R → todo.length + nf R ≤ f → BF V i [] (bfsF V f todo R)
  | 0, todo, R, h, hf => by
    obtain rfl : todo = [] := List.length_eq_zero_iff.1 (by omega)
    exact h
  | f + 1, [], R, h, _ => h
  | f + 1, x :: todo, R, h, hf => by
    obtain ⟨h1, h2⟩ := h.step hV
    exact bfsF_inv hV f _ _ h1 (by omega)

theorem comesR_inv {V : List (List Nat)} (hV : WF V) {i : Nat} (hi : i < V.length) : BF V i [] (comesR V i) := by
  have hl : ((List.replicate V.length false).set i true).length = V.length := by simp
  have hs : ∀ j, atB ((List.replicate V.length false).set i true) j = true → i = j := fun j hj => by
    rw [atB_set _ _ _ _ (by simpa using hi)] at hj
    by_cases h : i = j
    · exact h
    · rw [if_neg h] at hj
      unfold atB at hj
      rw [List.getElem?_replicate] at hj
      split at hj <;> simp at hj
  refine bfsF_inv hV _ _ _ ⟨hl, ?_, ?_, ?_, ?_⟩ (by have := nf_fresh V.length i hi; simp only [List.length_singleton]; omega)
  · rw [atB_set _ _ _ _ (by simpa using hi), if_pos rfl]
  · intro j hj
    obtain rfl := hs j hj
    exact .refl
  · intro j hj
    simp at hj
    subst hj
    exact ⟨by rw [atB_set _ _ _ _ (by simpa using hi), if_pos rfl], hi⟩
  · intro j hj
    obtain rfl := hs j hj
    exact .inl (by simp)
theorem comesR_iff {V : List (List Nat)} (hV : WF V) {i : Nat} (hi : i < V.length) (j : Nat) : atB (comesR V i) j = true ↔ Path V i j := by
  have h := comesR_inv hV hi
  refine ⟨h.path j, fun hp => ?_⟩
  induction hp with
  | refl => exact h.self
  | step _ hc ih => exact (h.open_ _ ih).elim (fun x => by simp at x) (fun x => x _ hc)
theorem cm_eq {V : List (List Nat)} {i : Nat} (hi : i < V.length) (j : Nat) : cm (comesM V) i j = atB (comesR V i) j := by
  unfold cm comesM
  rw [List.getElem?_map, List.getElem?_range hi]
  rfl
theorem cm_iff {V : List (List Nat)} (hV : WF V) {i : Nat} (hi : i < V.length) (j : Nat) : cm (comesM V) i j = true ↔ Path V i j := by
  rw [cm_eq hi]
  exact comesR_iff hV hi j
theorem comesR_len {V : List (List Nat)} (hV : WF V) {i : Nat} (hi : i < V.length) : (comesR V i).length = V.length := (comesR_inv hV hi).len
end Go.Proofs.YtilacamhjibneaaDoor
