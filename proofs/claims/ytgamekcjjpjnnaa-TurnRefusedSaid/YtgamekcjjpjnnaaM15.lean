/- Paths and rings of steps as lists: rings can be turned round and gone backwards, and the search finds one that refuses if there is one. Plain facts. -/
import Derived.Test.YtgamekcjjpjnnaaA20
set_option linter.unusedVariables false
namespace Go.Proofs.Ytgamekcjjpjnnaa

/-- Steps from one event to another one. -/
def Path (l : List Sp) : Int → List Int → Int → Prop
  | u, [], v => u = v
  | u, k :: R, v => kOk l k ∧ (kSp l k).src = u ∧ Path l (kSp l k).dst R v
def srcs' (l : List Sp) (R : List Int) : List Int := R.map fun k => (kSp l k).src
def dsts' (l : List Sp) (R : List Int) : List Int := R.map fun k => (kSp l k).dst
def loS (l : List Sp) (R : List Int) : Int := (R.map fun k => (kSp l k).lo).sum
def hiS (l : List Sp) (R : List Int) : Int := (R.map fun k => (kSp l k).hi).sum

theorem loS_cons {l : List Sp} {k : Int} {R : List Int} : loS l (k :: R) = (kSp l k).lo + loS l R := by simp [loS]
theorem hiS_cons {l : List Sp} {k : Int} {R : List Int} : hiS l (k :: R) = (kSp l k).hi + hiS l R := by simp [hiS]
theorem loS_append {l : List Sp} {R S : List Int} : loS l (R ++ S) = loS l R + loS l S := by simp [loS]
theorem hiS_append {l : List Sp} {R S : List Int} : hiS l (R ++ S) = hiS l R + hiS l S := by simp [hiS]

theorem Path.append {l : List Sp} : ∀ {R S : List Int} {u v : Int}, Path l u (R ++ S) v ↔ ∃ x, Path l u R x ∧ Path l x S v := by
  intro R
  induction R with
  | nil => intro S u v; exact ⟨fun h => ⟨u, rfl, h⟩, fun ⟨x, h1, h2⟩ => by cases h1; exact h2⟩
  | cons k R ih =>
    intro S u v
    constructor
    · rintro ⟨h1, h2, h3⟩
      obtain ⟨x, h4, h5⟩ := ih.1 h3
      exact ⟨x, ⟨h1, h2, h4⟩, h5⟩
    · rintro ⟨x, ⟨h1, h2, h4⟩, h5⟩
      exact ⟨h1, h2, ih.2 ⟨x, h4, h5⟩⟩

theorem hr_cons {k : Int} {R : List Int} {i : Nat} : hr (k :: R) (i + 1) = hr R i := rfl
theorem hr_zero {k : Int} {R : List Int} : hr (k :: R) 0 = k := rfl

theorem sumLo_take {l : List Sp} {R : List Int} : ∀ m, m ≤ R.length → sumLo l R m = loS l (R.take m) := by
  intro m
  induction m with
  | zero => intro _; rfl
  | succ m ih =>
    intro h
    rw [sumLo, ih (by omega), List.take_succ_eq_append_getElem (by omega), loS_append, hr_lt' (by omega)]
    simp [loS]
where hr_lt' {R : List Int} {i : Nat} (h : i < R.length) : hr R i = R[i] := by unfold hr; rw [List.getD_eq_getElem?_getD, List.getElem?_eq_getElem h]; rfl
theorem sumHi_take {l : List Sp} {R : List Int} : ∀ m, m ≤ R.length → sumHi l R m = hiS l (R.take m) := by
  intro m
  induction m with
  | zero => intro _; rfl
  | succ m ih =>
    intro h
    rw [sumHi, ih (by omega), List.take_succ_eq_append_getElem (by omega), hiS_append, sumLo_take.hr_lt' (by omega)]
    simp [hiS]
theorem sumLo_all {l : List Sp} {R : List Int} : sumLo l R R.length = loS l R := by rw [sumLo_take _ (Nat.le_refl _), List.take_length]
theorem sumHi_all {l : List Sp} {R : List Int} : sumHi l R R.length = hiS l R := by rw [sumHi_take _ (Nat.le_refl _), List.take_length]

theorem mem_hr {R : List Int} {i : Nat} (h : i < R.length) : hr R i ∈ R := by rw [sumLo_take.hr_lt' h]; exact List.getElem_mem h

theorem chain_of_path {l : List Sp} : ∀ {R : List Int} {u v : Int}, Path l u R v → (srcs' l R).Nodup → Chain l R R.length := by
  intro R
  induction R with
  | nil => intro u v _ _; exact Chain.zero
  | cons k R ih =>
    intro u v ⟨h1, h2, h3⟩ hnd
    have hnd' : (kSp l k).src ∉ srcs' l R ∧ (srcs' l R).Nodup := by simpa [srcs'] using hnd
    have hc := ih h3 hnd'.2
    refine ⟨fun i hi => ?_, fun i j hij hj => ?_, fun i hi => ?_⟩
    · cases i with
      | zero => exact h1
      | succ i => rw [hr_cons]; exact hc.ok i (by simpa using hi)
    · obtain ⟨j, rfl⟩ : ∃ j', j = j' + 1 := ⟨j - 1, by omega⟩
      have hj' : j < R.length := by simpa using hj
      cases i with
      | zero =>
        rw [hr_cons, hr_zero]
        intro e
        exact hnd'.1 (by rw [e]; exact List.mem_map_of_mem (mem_hr hj'))
      | succ i => rw [hr_cons, hr_cons]; exact hc.new i j (by omega) hj'
    · have hi' : i < R.length := by simpa using hi
      cases i with
      | zero =>
        rw [hr_cons, hr_zero]
        cases R with
        | nil => simp at hi'
        | cons k' R' => exact h3.2.1.symm
      | succ i => rw [hr_cons, hr_cons]; exact hc.next i (by omega)

theorem path_of_chain {l : List Sp} : ∀ {R : List Int}, 0 < R.length → Chain l R R.length → Path l (kSp l (hr R 0)).src R (kSp l (hr R (R.length - 1))).dst ∧ (srcs' l R).Nodup := by
  intro R
  induction R with
  | nil => intro h; simp at h
  | cons k R ih =>
    intro _ hc
    have hcR : Chain l R R.length := ⟨fun i hi => hc.ok (i + 1) (by simp; omega), fun i j hij hj => hc.new (i + 1) (j + 1) (by omega) (by simp; omega), fun i hi => hc.next (i + 1) (by simp; omega)⟩
    have hk := hc.ok 0 (by simp)
    by_cases hR : 0 < R.length
    · obtain ⟨h1, h2⟩ := ih hR hcR
      have hn := hc.next 0 (by simp; omega)
      rw [hr_cons, hr_zero] at hn
      rw [← hn] at h1
      rw [show (k :: R).length - 1 = (R.length - 1) + 1 by simp; omega, hr_cons]
      refine ⟨⟨hk, rfl, h1⟩, ?_⟩
      show (((kSp l k).src) :: srcs' l R).Nodup
      rw [List.nodup_cons]
      refine ⟨fun hm => ?_, h2⟩
      obtain ⟨k', hk', he⟩ := List.mem_map.1 hm
      obtain ⟨i, hi, rfl⟩ := List.getElem_of_mem hk'
      have := hc.new 0 (i + 1) (by omega) (by simp; omega)
      rw [hr_cons, hr_zero, sumLo_take.hr_lt' hi] at this
      exact this he.symm
    · have : R = [] := List.eq_nil_of_length_eq_zero (by omega)
      subst this
      exact ⟨⟨hk, rfl, rfl⟩, by simp [srcs']⟩

/-- A ring, as a list. -/
theorem ring_iff {N : Nat} {l : List Sp} {R : List Int} : isRing N l R ↔ 2 ≤ R.length ∧ R.length ≤ N ∧ ∃ u, Path l u R u ∧ (srcs' l R).Nodup := by
  constructor
  · rintro ⟨h1, h2, h3, h4⟩
    obtain ⟨h5, h6⟩ := path_of_chain (by omega) h3
    rw [← h4] at h5
    exact ⟨h1, h2, _, h5, h6⟩
  · rintro ⟨h1, h2, u, h3, h4⟩
    have hc := chain_of_path h3 h4
    obtain ⟨h5, _⟩ := path_of_chain (by omega) hc
    refine ⟨h1, h2, hc, ?_⟩
    have := path_ends h3 h5 (by omega)
    rw [this.1, this.2]
where
  path_ends {l : List Sp} {R : List Int} {u v u' v' : Int} (h : Path l u R v) (h' : Path l u' R v') (hR : 0 < R.length) : u' = u ∧ v' = v := by
    induction R generalizing u u' with
    | nil => simp at hR
    | cons k R ih =>
      obtain ⟨_, h2, h3⟩ := h
      obtain ⟨_, h5, h6⟩ := h'
      refine ⟨by rw [← h2, ← h5], ?_⟩
      by_cases hR' : 0 < R.length
      · exact (ih h3 h6 hR').2
      · have : R = [] := List.eq_nil_of_length_eq_zero (by omega)
        subst this
        have e1 : (kSp l k).dst = v := h3
        have e2 : (kSp l k).dst = v' := h6
        rw [← e1, ← e2]

def refusing (T : Nat) (l : List Sp) (R : List Int) : Prop := hiS l R - loS l R < -(loS l R) % (T : Int)

theorem neg_step {l : List Sp} {k : Int} (hk : kOk l k) : kOk l (-k) ∧ (kSp l (-k)).src = (kSp l k).dst ∧ (kSp l (-k)).dst = (kSp l k).src ∧ (kSp l (-k)).lo = -(kSp l k).hi ∧ (kSp l (-k)).hi = -(kSp l k).lo := by
  obtain ⟨h0, h1, h2⟩ := hk
  refine ⟨⟨by omega, by omega, by omega⟩, ?_⟩
  unfold kSp
  rw [Int.natAbs_neg]
  by_cases h : 0 < k
  · rw [if_pos h, if_neg (by omega)]; exact ⟨rfl, rfl, rfl, rfl⟩
  · rw [if_neg h, if_pos (by omega)]; simp

def backR (R : List Int) : List Int := (R.map fun k => -k).reverse
theorem backR_cons {k : Int} {R : List Int} : backR (k :: R) = backR R ++ [-k] := by simp [backR]
theorem path_back {l : List Sp} : ∀ {R : List Int} {u v : Int}, Path l u R v → Path l v (backR R) u ∧ srcs' l (backR R) = (dsts' l R).reverse ∧ loS l (backR R) = -(hiS l R) ∧ hiS l (backR R) = -(loS l R) := by
  intro R
  induction R with
  | nil => intro u v h; exact ⟨h.symm, rfl, rfl, rfl⟩
  | cons k R ih =>
    intro u v ⟨h1, h2, h3⟩
    obtain ⟨a1, a2, a3, a4⟩ := ih h3
    obtain ⟨n0, n1, n2, n3, n4⟩ := neg_step h1
    rw [backR_cons]
    refine ⟨Path.append.2 ⟨_, a1, n0, n1, by rw [n2]; exact h2⟩, ?_, ?_, ?_⟩
    · simp only [srcs', dsts'] at a2 ⊢
      simp [a2, n1]
    · rw [loS_append, a3, hiS_cons, loS_cons, n3]; simp [loS]; omega
    · rw [hiS_append, a4, loS_cons, hiS_cons, n4]; simp [hiS]; omega

theorem path_ends_eq {l : List Sp} : ∀ {R : List Int} {u v : Int}, Path l u R v → u :: dsts' l R = srcs' l R ++ [v] := by
  intro R
  induction R with
  | nil => intro u v h; cases h; rfl
  | cons k R ih =>
    intro u v ⟨h1, h2, h3⟩
    have := ih h3
    simp only [dsts', srcs', List.map_cons, List.cons_append] at this ⊢
    rw [h2, this]

theorem lo_le_hi {t n : Int} {l : List Sp} (hv : Valid t n l) : ∀ {R : List Int}, (∀ k ∈ R, kOk l k) → loS l R ≤ hiS l R := by
  intro R
  induction R with
  | nil => intro _; exact Int.le_refl _
  | cons k R ih =>
    intro h
    have h1 := ih (fun k hk => h k (by simp [hk]))
    have h2 := kSp_ok hv (h k (by simp))
    rw [loS_cons, hiS_cons]
    omega
theorem path_ok {l : List Sp} : ∀ {R : List Int} {u v : Int}, Path l u R v → ∀ k ∈ R, kOk l k := by
  intro R
  induction R with
  | nil => intro u v _ k hk; cases hk
  | cons k R ih =>
    intro u v ⟨h1, h2, h3⟩ k' hk'
    rcases List.mem_cons.1 hk' with rfl | h
    · exact h1
    · exact ih h3 k' h

/-- A ring that refuses, and begins along a span. -/
theorem ring_forward {T N : Nat} {l : List Sp} {R : List Int} (hv : Valid T N l) (hr1 : isRing N l R) (hr2 : refusing T l R) : ∃ S, isRing N l S ∧ refusing T l S ∧ 0 < hr S 0 := by
  obtain ⟨h1, h2, u, h3, h4⟩ := ring_iff.1 hr1
  have ht := hv.t1
  by_cases hp : ∃ k ∈ R, 0 < k
  · obtain ⟨k, hk, h0⟩ := hp
    obtain ⟨A, B, rfl⟩ := List.append_of_mem hk
    obtain ⟨x, p1, p2⟩ := Path.append.1 h3
    have hl : (k :: B ++ A).length = (A ++ k :: B).length := by simp; omega
    refine ⟨k :: B ++ A, ring_iff.2 ⟨by omega, by omega, x, Path.append.2 ⟨u, p2, p1⟩, ?_⟩, ?_, h0⟩
    · have : (srcs' l (k :: B ++ A)).Perm (srcs' l (A ++ k :: B)) := by
        unfold srcs'
        exact (List.perm_append_comm (l₁ := k :: B) (l₂ := A)).map _
      exact this.nodup_iff.2 h4
    · unfold refusing at hr2 ⊢
      rw [loS_append, hiS_append] at hr2 ⊢
      rw [Int.add_comm (loS l (k :: B)), Int.add_comm (hiS l (k :: B))]
      exact hr2
  · obtain ⟨a1, a2, a3, a4⟩ := path_back h3
    have hlen : (backR R).length = R.length := by simp [backR]
    have hneg : ∀ k ∈ R, k < 0 := fun k hk => by
      have := (path_ok h3 k hk).1
      have h5 : ¬ 0 < k := fun h => hp ⟨k, hk, h⟩
      omega
    refine ⟨backR R, ring_iff.2 ⟨by omega, by omega, u, a1, ?_⟩, ?_, ?_⟩
    · rw [a2]
      refine (List.reverse_perm _).nodup_iff.2 ?_
      have e := path_ends_eq h3
      have hperm : (u :: dsts' l R).Perm (u :: srcs' l R) := by
        rw [e]; exact List.perm_append_comm
      exact (hperm.cons_inv).nodup_iff.2 h4
    · unfold refusing at hr2 ⊢
      rw [a3, a4, Int.neg_neg]
      have hle := lo_le_hi hv (path_ok h3)
      have b1 := Int.emod_nonneg (-(loS l R)) (show (T : Int) ≠ 0 by omega)
      have b2 := Int.emod_lt_of_pos (-(loS l R)) (show (0 : Int) < T by omega)
      have b3 := Int.emod_add_mul_ediv (-(loS l R)) (T : Int)
      have e : hiS l R % (T : Int) = hiS l R - loS l R - (-(loS l R)) % (T : Int) + T := by
        have : hiS l R = (hiS l R - loS l R - (-(loS l R)) % (T : Int) + T) + T * (-((-(loS l R)) / (T : Int)) - 1) := by
          rw [Int.mul_sub, Int.mul_neg]; omega
        rw [this, Int.add_mul_emod_self_left]
        rw [← this]
        exact Int.emod_eq_of_lt (by omega) (by omega)
      omega
    · have hm : hr (backR R) 0 ∈ backR R := mem_hr (by omega)
      unfold backR at hm ⊢
      rw [List.mem_reverse] at hm
      obtain ⟨k, hk, he⟩ := List.mem_map.1 hm
      have := hneg k hk
      omega

theorem search_complete {T : Nat} {l : List Sp} {R : List Int} (hc : Chain l R R.length) (h0 : 0 < hr R 0) (hend : ringEnd T l R = true) : ∀ (m : Nat) (P Q : List Int), P ++ Q = R → Q.length = m → ringSearch T l m P ≠ none := by
  intro m
  induction m with
  | zero =>
    intro P Q h1 h2
    have : Q = [] := List.eq_nil_of_length_eq_zero h2
    subst this
    rw [List.append_nil] at h1
    subst h1
    unfold ringSearch
    rw [if_pos hend]
    simp
  | succ m ih =>
    intro P Q h1 h2
    obtain ⟨k, Q', rfl⟩ : ∃ k Q', Q = k :: Q' := by
      cases Q with
      | nil => simp at h2
      | cons k Q' => exact ⟨k, Q', rfl⟩
    have hlen : P.length + (m + 1) = R.length := by rw [← h1]; simp at h2 ⊢; omega
    have hP : ∀ i, i < P.length → hr R i = hr P i := fun i hi => by rw [← h1]; exact hr_append_lt hi
    have hk : hr R P.length = k := by
      rw [← h1]
      unfold hr
      simp [List.getD_eq_getElem?_getD]
    have hok : stepOk l P k := by
      refine ⟨?_, fun h => ?_, fun i hi => ?_, fun hpos => ?_⟩
      · rw [← hk]; exact hc.ok _ (by omega)
      · subst h; rw [← hk]; exact h0
      · rw [← hP i hi, ← hk]; exact hc.new i _ hi (by omega)
      · rw [← hP _ (by omega), ← hk]
        have := hc.next (P.length - 1) (by omega)
        rwa [show P.length - 1 + 1 = P.length by omega] at this
    have hne := ih (P ++ [k]) Q' (by simpa using h1) (by simpa using h2)
    intro hnone
    unfold ringSearch at hnone
    rw [List.findSome?_eq_none_iff] at hnone
    have := hnone k (by
      unfold kList
      obtain ⟨⟨_, b1, b2⟩, _⟩ := hok
      exact List.mem_map.2 ⟨(k + l.length).toNat, List.mem_range.2 (by omega), by omega⟩)
    rw [if_pos hok] at this
    exact hne this

theorem ring_end_iff {T N : Nat} {l : List Sp} {R : List Int} (hv : Valid T N l) (hr1 : isRing N l R) : ringEnd T l R = true ↔ refusing T l R := by
  rw [ringEnd_ring hv hr1.2.2.1 hr1.1, sumLo_all, sumHi_all]
  exact ⟨fun h => h.2, fun h => ⟨hr1, h⟩⟩

/-- If a ring refuses, the search finds one. -/
theorem ringE_finds {T N : Nat} {l : List Sp} {R : List Int} (h : spansE (T : Int) (N : Int) l = 0) (hr1 : isRing N l R) (hr2 : refusing T l R) : (ringE (T : Int) (N : Int) l).2 = 0 := by
  have hv := valid_of h
  obtain ⟨S, s1, s2, s3⟩ := ring_forward hv hr1 hr2
  have hne := search_complete s1.2.2.1 s3 ((ring_end_iff hv s1).2 s2) S.length [] S rfl rfl
  unfold ringE
  rw [if_neg (by simpa using h), Int.toNat_natCast, Int.toNat_natCast]
  cases hf : (List.range (N - 1)).findSome? fun i => ringSearch T l (i + 2) [] with
  | none =>
    exfalso
    rw [List.findSome?_eq_none_iff] at hf
    have h2 := s1.1; have h3 := s1.2.1
    have := hf (S.length - 2) (List.mem_range.2 (by omega))
    rw [show S.length - 2 + 2 = S.length by omega] at this
    exact hne this
  | some X => rfl

theorem search_sound {T : Nat} {l : List Sp} : ∀ {m : Nat} {P X : List Int}, Chain l P P.length → ringSearch T l m P = some X → Chain l X X.length ∧ X.length = P.length + m ∧ ringEnd T l X = true := by
  intro m
  induction m with
  | zero =>
    intro P X hc h
    unfold ringSearch at h
    split at h
    · rename_i he; cases h; exact ⟨hc, rfl, he⟩
    · cases h
  | succ m ih =>
    intro P X hc h
    unfold ringSearch at h
    obtain ⟨k, _, hk⟩ := List.exists_of_findSome?_eq_some h
    split at hk
    · rename_i hok
      obtain ⟨h1, h2, h3⟩ := ih (hc.snoc hok) hk
      exact ⟨h1, by simp at h2; omega, h3⟩
    · cases hk

/-- What the search finds refuses. -/
theorem ringE_sound {T N : Nat} {l : List Sp} (h : spansE (T : Int) (N : Int) l = 0) : (ringE (T : Int) (N : Int) l).2 = 10 ∧ (ringE (T : Int) (N : Int) l).1 = [] ∨ (ringE (T : Int) (N : Int) l).2 = 0 ∧ isRing N l (ringE (T : Int) (N : Int) l).1 ∧ refusing T l (ringE (T : Int) (N : Int) l).1 := by
  have hv := valid_of h
  unfold ringE
  rw [if_neg (by simpa using h), Int.toNat_natCast, Int.toNat_natCast]
  cases hf : (List.range (N - 1)).findSome? fun i => ringSearch T l (i + 2) [] with
  | none => exact .inl ⟨rfl, rfl⟩
  | some X =>
    obtain ⟨i, hi, hs⟩ := List.exists_of_findSome?_eq_some hf
    obtain ⟨h1, h2, h3⟩ := search_sound Chain.zero hs
    simp at h2
    have h4 := (ringEnd_ring hv h1 (by omega)).1 h3
    rw [sumLo_all, sumHi_all] at h4
    exact .inr ⟨rfl, h4.1, h4.2⟩
end Go.Proofs.Ytgamekcjjpjnnaa
