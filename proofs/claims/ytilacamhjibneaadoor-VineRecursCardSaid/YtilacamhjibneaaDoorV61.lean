/- The rounds of Faddeev and LeVerrier, told; their bounds; Cayley and Hamilton. Plain facts. Their conditions are their premises. -/
import Derived.Test.YtilacamhjibneaaDoorV60
set_option linter.unusedVariables false
namespace Go.Proofs.YtilacamhjibneaaDoor

def sgn (k : Nat) : Int := (-1) ^ k
theorem sgn_succ (k : Nat) : sgn (k + 1) = - sgn k := by unfold sgn; rw [Int.pow_succ]; omega
theorem sgn_sq (k : Nat) : sgn k * sgn k = 1 := one_pow k
theorem sgn_cases (k : Nat) : sgn k = 1 ∨ sgn k = -1 := by
  induction k with
  | zero => exact .inl rfl
  | succ k ih => rw [sgn_succ]; omega
def coef (a : Nat → Nat → Int) (n k : Nat) : Int := sgn k * eSum a n (k + 1)
def delta (i j : Nat) : Int := if i = j then 1 else 0
/-- The matrix after k rounds. -/
def flB (a : Nat → Nat → Int) (n : Nat) : Nat → Nat → Nat → Int
  | 0, i, j => delta i j
  | k + 1, i, j => sgn k * qSum a n k i j - delta i j * coef a n k
theorem sumI_delta (f : Nat → Int) (j : Nat) : ∀ (l : List Nat), l.Nodup → sumI (fun s => f s * delta s j) l = if j ∈ l then f j else 0
  | [], _ => rfl
  | c :: l, h => by
    rw [sumI, sumI_delta f j l (List.nodup_cons.1 h).2]
    have hc := (List.nodup_cons.1 h).1
    unfold delta
    by_cases hcj : c = j
    · subst hcj
      rw [if_pos rfl, if_neg hc, if_pos (by simp)]
      omega
    · rw [if_neg hcj]
      have : (j ∈ c :: l) ↔ j ∈ l := by simp; intro h; exact absurd h.symm hcj
      by_cases hj : j ∈ l
      · rw [if_pos hj, if_pos (this.2 hj)]; omega
      · rw [if_neg hj, if_neg (fun x => hj (this.1 x))]; omega
theorem sumI_sub (f g : Nat → Int) : ∀ (l : List Nat), sumI (fun x => f x - g x) l = sumI f l - sumI g l
  | [] => rfl
  | c :: l => by rw [sumI, sumI, sumI, sumI_sub f g l]; omega
/-- The next product. -/
theorem flB_prod (a : Nat → Nat → Int) (n k i j : Nat) (hj : j < n) : sumI (fun s => a i s * flB a n k s j) (List.range n) = sgn k * qSum a n k i j := by
  cases k with
  | zero =>
    show sumI (fun s => a i s * delta s j) (List.range n) = _
    rw [sumI_delta (a i) j (List.range n) List.nodup_range, if_pos (List.mem_range.2 hj), qSum_zero]
    simp [sgn]
  | succ k =>
    have h1 : sumI (fun s => a i s * flB a n (k + 1) s j) (List.range n) = sgn k * sumI (fun s => a i s * qSum a n k s j) (List.range n) - coef a n k * a i j := by
      rw [← sumI_mul]
      have h2 : coef a n k * a i j = sumI (fun s => (coef a n k * a i s) * delta s j) (List.range n) := by
        rw [sumI_delta (fun s => coef a n k * a i s) j (List.range n) List.nodup_range, if_pos (List.mem_range.2 hj)]
      rw [h2, ← sumI_sub]
      refine sumI_congr _ (fun s _ => ?_)
      rw [flB]
      grind
    rw [h1, qSum_next, sgn_succ]
    unfold coef
    grind
theorem flB_trace (a : Nat → Nat → Int) (n k : Nat) : sumI (fun i => sgn k * qSum a n k i i) (List.range n) = ((k + 1 : Nat) : Int) * coef a n k := by
  rw [sumI_mul, trace_q]
  unfold coef
  grind
theorem nodup_le : ∀ (l m : List Nat), l.Nodup → (∀ x ∈ l, x ∈ m) → l.length ≤ m.length
  | [], _, _, _ => Nat.zero_le _
  | c :: l, m, h, hm => by
    have h1 := nodup_le l (m.erase c) (List.nodup_cons.1 h).2 (fun x hx => by
      rw [List.mem_erase_of_ne]
      · exact hm x (by simp [hx])
      · intro e
        subst e
        exact (List.nodup_cons.1 h).1 hx)
    have h2 := List.length_erase_of_mem (hm c (by simp))
    have h3 := List.length_pos_of_mem (hm c (by simp))
    rw [List.length_cons]
    omega
/-- Cayley and Hamilton: behind n rounds nothing is left. -/
theorem flB_done (a : Nat → Nat → Int) (n i j : Nat) (hn : 0 < n) (hi : i < n) (hj : j < n) : flB a n n i j = 0 := by
  obtain ⟨m, rfl⟩ : ∃ m, n = m + 1 := ⟨n - 1, by omega⟩
  rw [flB]
  unfold coef
  have key : qSum a (m + 1) m i j = delta i j * eSum a (m + 1) (m + 1) := by
    by_cases hij : i = j
    · subst hij
      -- all traces' parts: only the full list without i is left
      have h1 := qSum_next a (m + 1) m i i
      unfold delta
      rw [if_pos rfl, Int.one_mul]
      -- the sum over sublists of length m of bordered minors equals the full minor
      unfold qSum eSum
      have full : ∀ (l : List Nat) (f : List Nat → Int), sumS f l l.length = f l := by
        intro l
        induction l with
        | nil => intro f; rfl
        | cons c l ih =>
          intro f
          rw [List.length_cons, sumS, ih, sumS_none f l (l.length + 1) (by omega)]
          simp
      have one : ∀ (l p : List Nat), l.Nodup → i ∈ l → ∀ f : List Nat → Int, (∀ S, i ∈ S → f S = 0) → (∀ x y, l = x ++ i :: y → sumS f l (x.length + y.length) = f (x ++ y)) := by
        intro l
        induction l with
        | nil => intro p _ h; cases h
        | cons c l ih =>
          intro p hnd him f hf x y hxy
          cases x with
          | nil =>
            simp only [List.nil_append, List.cons.injEq] at hxy
            obtain ⟨rfl, rfl⟩ := hxy
            simp only [List.length_nil, Nat.zero_add, List.nil_append]
            cases hl : l.length with
            | zero =>
              have : l = [] := List.eq_nil_of_length_eq_zero hl
              subst this
              rfl
            | succ q =>
              rw [sumS, ← hl, full]
              have : sumS (fun S => f (c :: S)) l q = 0 := by
                rw [sumS_congr l q (g := fun _ => 0 * 0) (fun S _ _ => hf _ (by simp)), sumS_mul, Int.zero_mul]
              omega
          | cons d x =>
            simp only [List.cons_append, List.cons.injEq] at hxy
            obtain ⟨rfl, rfl⟩ := hxy
            have hci : c ≠ i := by
              intro h
              subst h
              exact (List.nodup_cons.1 hnd).1 (by simp)
            rw [List.length_cons, show x.length + 1 + y.length = (x.length + y.length) + 1 by omega, sumS, ih p (List.nodup_cons.1 hnd).2 (by simp) (fun S => f (c :: S)) (fun S hS => hf _ (by simp [hS])) x y rfl]
            have : sumS f (x ++ i :: y) (x.length + y.length + 1) = 0 := by
              have e : x.length + y.length + 1 = (x ++ i :: y).length := by simp; omega
              rw [e, full]
              exact hf _ (by simp)
            rw [this]
            simp
      obtain ⟨x, y, hxy⟩ := List.append_of_mem (List.mem_range.2 hi)
      have hlen : x.length + y.length = m := by
        have := congrArg List.length hxy
        simp at this
        omega
      have h2 := one (List.range (m + 1)) [] List.nodup_range (List.mem_range.2 hi) (bor a i i) (fun S hS => bor_zero a i i S hS) x y hxy
      rw [hlen] at h2
      have h3 := full (List.range (m + 1)) (fun S => det a S S)
      rw [List.length_range] at h3
      rw [h2, h3, hxy, det_front]
      rfl
    · unfold delta
      rw [if_neg hij, Int.zero_mul]
      unfold qSum
      rw [sumS_congr (List.range (m + 1)) m (g := fun _ => 0 * 0) (fun S hS hm => ?_), sumS_mul, Int.zero_mul]
      by_cases h1 : i ∈ S
      · rw [bor_zero a i j S h1]; rfl
      · by_cases h2 : j ∈ S
        · exact (det_col_twice a j (i :: S) S (by simp) h2).trans (by rfl)
        · have hnd : (i :: j :: S).Nodup := by
            rw [List.nodup_cons, List.nodup_cons]
            exact ⟨by simp [h1, hij], h2, hm.nodup List.nodup_range⟩
          have := nodup_le (i :: j :: S) (List.range (m + 1)) hnd (fun x hx => by
            rcases List.mem_cons.1 hx with rfl | hx
            · exact List.mem_range.2 hi
            · rcases List.mem_cons.1 hx with rfl | hx
              · exact List.mem_range.2 hj
              · exact hm.subset hx)
          simp [hS] at this
          omega
  rw [key]
  grind
end Go.Proofs.YtilacamhjibneaaDoor
