/- Spans that merge groups: with them alone every sum along a path can be had; with one more span there is a plan unless a ring refuses. Plain facts. -/
import Derived.Test.YtgamekcjjpjnnaaM15
import Derived.Test.YtgamekcjjpjnnaaM6
import Derived.Test.YtgamekcjjpjnnaaM9
import Derived.Test.YtgamekcjjpjnnaaM7
set_option linter.unusedVariables false
namespace Go.Proofs.Ytgamekcjjpjnnaa
open Go.RowKit

/-- The labels after k spans. -/
def gAt (N : Nat) (l : List Sp) (k : Nat) : List Int := ((l.take k).foldl (grpStep false) (initG N, (N : Int))).1
def mAt (N : Nat) (l : List Sp) (k : Nat) : Int := ((l.take k).foldl (grpStep false) (initG N, (N : Int))).2
/-- Does the span k merge two groups? -/
def mg (N : Nat) (l : List Sp) (k : Nat) : Prop := hr (gAt N l k) (l.getD k default).src.toNat ≠ hr (gAt N l k) (l.getD k default).dst.toNat
instance (N : Nat) (l : List Sp) (k : Nat) : Decidable (mg N l k) := by unfold mg; infer_instance

theorem gAt_len (N : Nat) (l : List Sp) (k : Nat) : (gAt N l k).length = N := by unfold gAt; rw [foldl_len, initG_len]
theorem getD_lt {l : List Sp} {k : Nat} (h : k < l.length) : l.getD k default = l[k] := by rw [List.getD_eq_getElem?_getD, List.getElem?_eq_getElem h]; rfl
theorem fold_succ {N : Nat} {l : List Sp} {k : Nat} (h : k < l.length) : (l.take (k + 1)).foldl (grpStep false) (initG N, (N : Int)) = grpStep false ((l.take k).foldl (grpStep false) (initG N, (N : Int))) (l.getD k default) := by
  rw [List.take_succ_eq_append_getElem h, List.foldl_append, getD_lt h]; rfl
theorem step_keep {N : Nat} {l : List Sp} {k : Nat} (h : k < l.length) (hm : ¬ mg N l k) : gAt N l (k + 1) = gAt N l k ∧ mAt N l (k + 1) = mAt N l k := by
  unfold mg gAt at hm
  unfold gAt mAt
  rw [fold_succ h]
  generalize (l.take k).foldl (grpStep false) (initG N, (N : Int)) = st at hm ⊢
  unfold grpStep
  rw [if_pos (Decidable.of_not_not hm)]
  exact ⟨rfl, rfl⟩
theorem step_merge {N : Nat} {l : List Sp} {k : Nat} (h : k < l.length) (hm : mg N l k) :
    gAt N l (k + 1) = mergeG (gAt N l k) (hr (gAt N l k) (l.getD k default).dst.toNat) (hr (gAt N l k) (l.getD k default).src.toNat) ∧ mAt N l (k + 1) = mAt N l k - 1 := by
  unfold mg gAt at hm
  unfold gAt mAt
  rw [fold_succ h]
  generalize (l.take k).foldl (grpStep false) (initG N, (N : Int)) = st at hm ⊢
  unfold grpStep
  rw [if_neg hm]
  simp

/-- How many of the first k spans do not merge. -/
def cnt (N : Nat) (l : List Sp) : Nat → Nat
  | 0 => 0
  | k + 1 => cnt N l k + if mg N l k then 0 else 1
theorem mAt_cnt {N : Nat} {l : List Sp} : ∀ k, k ≤ l.length → mAt N l k = N - k + cnt N l k := by
  intro k
  induction k with
  | zero => intro _; simp [mAt, cnt]
  | succ k ih =>
    intro h
    have := ih (by omega)
    unfold cnt
    by_cases hm : mg N l k
    · rw [(step_merge (by omega) hm).2, if_pos hm]; omega
    · rw [(step_keep (by omega) hm).2, if_neg hm]; omega
theorem cnt_zero {N : Nat} {l : List Sp} : ∀ k, cnt N l k = 0 → ∀ j, j < k → mg N l j := by
  intro k
  induction k with
  | zero => intro _ j hj; omega
  | succ k ih =>
    intro h j hj
    unfold cnt at h
    by_cases hm : mg N l k
    · rw [if_pos hm] at h
      rcases Nat.lt_succ_iff_lt_or_eq.1 hj with h' | rfl
      · exact ih (by omega) j h'
      · exact hm
    · rw [if_neg hm] at h; omega
theorem cnt_one {N : Nat} {l : List Sp} : ∀ k, cnt N l k = 1 → ∃ e, e < k ∧ ¬ mg N l e ∧ ∀ j, j < k → j ≠ e → mg N l j := by
  intro k
  induction k with
  | zero => intro h; simp [cnt] at h
  | succ k ih =>
    intro h
    unfold cnt at h
    by_cases hm : mg N l k
    · rw [if_pos hm] at h
      obtain ⟨e, h1, h2, h3⟩ := ih (by omega)
      refine ⟨e, by omega, h2, fun j hj hne => ?_⟩
      rcases Nat.lt_succ_iff_lt_or_eq.1 hj with h' | rfl
      · exact h3 j h' hne
      · exact hm
    · rw [if_neg hm] at h
      exact ⟨k, by omega, hm, fun j hj hne => cnt_zero k (by omega) j (by omega)⟩

theorem freeE_cnt {T N : Nat} {l : List Sp} (h : spansE (T : Int) (N : Int) l = 0) : freeE (T : Int) (N : Int) l = (((cnt N l l.length : Nat) : Int), 0) := by
  rw [freeE_ok h, Int.toNat_natCast]
  have h1 := mAt_cnt (N := N) (l := l) l.length (Nat.le_refl _)
  unfold mAt at h1
  rw [List.take_length] at h1
  unfold grps
  rw [h1]
  congr 1
  omega

/-- The ends of a span have the same label from then on. -/
theorem ends_same {T N : Nat} {l : List Sp} (hv : Valid T N l) : ∀ k, k ≤ l.length → ∀ j, j < k → hr (gAt N l k) (l.getD j default).src.toNat = hr (gAt N l k) (l.getD j default).dst.toNat := by
  intro k
  induction k with
  | zero => intro _ j hj; omega
  | succ k ih =>
    intro h j hj
    have hb : ∀ i, i < l.length → (l.getD i default).src.toNat < N ∧ (l.getD i default).dst.toNat < N := fun i hi => by
      rw [getD_lt hi]
      obtain ⟨a, b, c, d, _⟩ := hv.ok _ (List.getElem_mem hi)
      omega
    have hbj := hb j (by omega)
    have hbk := hb k (by omega)
    have hlen := gAt_len N l k
    by_cases hm : mg N l k
    · rw [(step_merge (by omega) hm).1, mergeG_hr (by omega), mergeG_hr (by omega)]
      rcases Nat.lt_succ_iff_lt_or_eq.1 hj with h' | rfl
      · rw [ih (by omega) j h']
      · by_cases he : hr (gAt N l j) (l.getD j default).src.toNat = hr (gAt N l j) (l.getD j default).dst.toNat
        · rw [he]
        · rw [if_neg he, if_pos rfl]
    · rw [(step_keep (by omega) hm).1]
      rcases Nat.lt_succ_iff_lt_or_eq.1 hj with h' | rfl
      · exact ih (by omega) j h'
      · unfold mg at hm
        exact Decidable.of_not_not hm

/-- The merging spans before k are kept. -/
def Kept (N : Nat) (l : List Sp) (k : Nat) (X : Nat → Int) : Prop := ∀ j, j < k → mg N l j → (l.getD j default).lo ≤ X (l.getD j default).dst.toNat - X (l.getD j default).src.toNat ∧ X (l.getD j default).dst.toNat - X (l.getD j default).src.toNat ≤ (l.getD j default).hi

/-- From one event to another one of its group. -/
structure Way (N : Nat) (l : List Sp) (k : Nat) (u v : Nat) (R : List Int) : Prop where
  path : Path l u R v
  nodup : (srcs' l R).Nodup
  out : (v : Int) ∉ srcs' l R
  lab : ∀ x ∈ srcs' l R, hr (gAt N l k) x.toNat = hr (gAt N l k) u
  all : ∀ c, loS l R ≤ c → c ≤ hiS l R → ∃ X, Kept N l k X ∧ X v - X u = c

theorem Kept.glue {T N : Nat} {l : List Sp} (hv : Valid T N l) {k : Nat} (hk : k < l.length) {X Y : Nat → Int} (hX : Kept N l k X) (hY : Kept N l k Y) (L δ : Int)
    (hs : (l.getD k default).lo ≤ (fun i => if hr (gAt N l k) i = L then Y i + δ else X i) (l.getD k default).dst.toNat - (fun i => if hr (gAt N l k) i = L then Y i + δ else X i) (l.getD k default).src.toNat ∧
      (fun i => if hr (gAt N l k) i = L then Y i + δ else X i) (l.getD k default).dst.toNat - (fun i => if hr (gAt N l k) i = L then Y i + δ else X i) (l.getD k default).src.toNat ≤ (l.getD k default).hi) :
    Kept N l (k + 1) (fun i => if hr (gAt N l k) i = L then Y i + δ else X i) := by
  intro j hj hm
  rcases Nat.lt_succ_iff_lt_or_eq.1 hj with h' | rfl
  · have he := ends_same hv k (by omega) j h'
    have h1 := hX j h' hm
    have h2 := hY j h' hm
    dsimp only
    rw [he]
    split <;> omega
  · exact hs

theorem Kept.keep {N : Nat} {l : List Sp} {k : Nat} {X : Nat → Int} (hX : Kept N l k X) (hm : ¬ mg N l k) : Kept N l (k + 1) X := by
  intro j hj hmj
  rcases Nat.lt_succ_iff_lt_or_eq.1 hj with h' | rfl
  · exact hX j h' hmj
  · exact absurd hmj hm

theorem split3 {a b c d e f x : Int} (h1 : a ≤ b) (h2 : c ≤ d) (h3 : e ≤ f) (hx : a + (c + e) ≤ x) (hx2 : x ≤ b + (d + f)) : ∃ p q r, a ≤ p ∧ p ≤ b ∧ c ≤ q ∧ q ≤ d ∧ e ≤ r ∧ r ≤ f ∧ x = p + (q + r) := by
  by_cases g1 : x ≤ b + (c + e)
  · exact ⟨x - (c + e), c, e, by omega, by omega, by omega, by omega, by omega, by omega, by omega⟩
  · by_cases g2 : x ≤ b + (d + e)
    · exact ⟨b, x - b - e, e, by omega, by omega, by omega, by omega, by omega, by omega, by omega⟩
    · exact ⟨b, d, x - b - d, by omega, by omega, by omega, by omega, by omega, by omega, by omega⟩

theorem ways {T N : Nat} {l : List Sp} (hv : Valid T N l) : ∀ k, k ≤ l.length → ∀ u v, u < N → v < N → hr (gAt N l k) u = hr (gAt N l k) v → ∃ R, Way N l k u v R := by
  intro k
  induction k with
  | zero =>
    intro _ u v hu hvn he
    have e : gAt N l 0 = initG N := rfl
    rw [e, initG_hr hu, initG_hr hvn] at he
    obtain rfl : u = v := by omega
    exact ⟨[], rfl, by simp [srcs'], by simp [srcs'], by simp [srcs'], fun c h1 h2 => ⟨fun _ => 0, fun j hj => by omega, by simp [loS, hiS] at h1 h2; simp; omega⟩⟩
  | succ k ih =>
    intro h u v hu hvn he
    have hkl : k < l.length := by omega
    have hIH := ih (by omega)
    by_cases hm : mg N l k
    · obtain ⟨hG, _⟩ := step_merge hkl hm
      have hlen := gAt_len N l k
      have hs := hv.ok _ (List.getElem_mem hkl)
      rw [← getD_lt hkl] at hs
      obtain ⟨s, hse⟩ : ∃ s, l.getD k default = s := ⟨_, rfl⟩
      have hm' := hm
      unfold mg at hm'
      rw [hse] at hs hm' hG
      obtain ⟨o1, o2, o3, o4, o5, o6, o7, o8, o9⟩ := hs
      obtain ⟨a, ha⟩ : ∃ a, s.src.toNat = a := ⟨_, rfl⟩
      obtain ⟨b, hb⟩ : ∃ b, s.dst.toNat = b := ⟨_, rfl⟩
      rw [ha, hb] at hG hm'
      have hf : kSp l ((k : Int) + 1) = s := by
        unfold kSp
        rw [if_pos (by omega), show ((k : Int) + 1).natAbs - 1 = k by omega, hse]
      have hbk : kSp l (-((k : Int) + 1)) = ⟨s.dst, s.src, -s.hi, -s.lo⟩ := by
        unfold kSp
        rw [if_neg (by omega), show (-((k : Int) + 1)).natAbs - 1 = k by omega, hse]
      have okf : kOk l ((k : Int) + 1) := ⟨by omega, by omega, by omega⟩
      have okb : kOk l (-((k : Int) + 1)) := ⟨by omega, by omega, by omega⟩
      obtain ⟨G, hGe⟩ : ∃ G, gAt N l k = G := ⟨_, rfl⟩
      have hrG : ∀ i, i < N → hr (gAt N l (k + 1)) i = if hr G i = hr G b then hr G a else hr G i := fun i hi => by
        rw [hG, hGe, mergeG_hr (by rw [← hGe]; omega)]
      rw [hrG u hu, hrG v hvn] at he
      rw [hGe] at hm' hIH
      have hIH' : ∀ u v, u < N → v < N → hr G u = hr G v → ∃ R, Way N l k u v R := hIH
      have srcN : ∀ {R : List Int} {x y : Int}, Path l x R y → ∀ z ∈ srcs' l R, z.toNat < N := fun hp z hz => by
        obtain ⟨q, hq, rfl⟩ := List.mem_map.1 hz
        have := kSp_ok hv (path_ok hp q hq)
        omega
      by_cases hcase : hr G u = hr G v
      · obtain ⟨R, w1, w2, w3, w4, w5⟩ := hIH' u v hu hvn hcase
        refine ⟨R, w1, w2, w3, fun x hx => ?_, fun c h1 h2 => ?_⟩
        · have := w4 x hx
          rw [hGe] at this
          rw [hrG _ (srcN w1 x hx), hrG u hu, this]
        · obtain ⟨X, hX, hXc⟩ := w5 c h1 h2
          refine ⟨_, hX.glue hv hkl hX (hr G b) (s.lo - (X b - X a)) ?_, ?_⟩
          · rw [hse, ha, hb, hGe]
            dsimp only
            rw [if_pos rfl, if_neg hm']
            omega
          · try dsimp only
            rw [hGe, hcase]
            split <;> omega
      · by_cases hub : hr G u = hr G b
        · -- from the end's group to the beginning's
          have hva : hr G a = hr G v := by
            rw [if_pos hub] at he
            by_cases hvb : hr G v = hr G b
            · exact absurd (hub.trans hvb.symm) hcase
            · rwa [if_neg hvb] at he
          obtain ⟨R1, p1, p2, p3, p4, p5⟩ := hIH' u b hu (by omega) hub
          obtain ⟨R2, q1, q2, q3, q4, q5⟩ := hIH' a v (by omega) hvn hva
          rw [hGe] at p4 q4
          refine ⟨R1 ++ (-((k : Int) + 1)) :: R2, Path.append.2 ⟨b, p1, okb, by rw [hbk]; dsimp only; omega, by rw [hbk]; dsimp only; rw [show s.src = (a : Int) by omega]; exact q1⟩, ?_, ?_, fun x hx => ?_, fun c h1 h2 => ?_⟩
          · unfold srcs' at p2 q2 ⊢
            rw [List.map_append, List.map_cons, hbk, List.nodup_append]
            dsimp only
            refine ⟨p2, List.nodup_cons.2 ⟨fun hx => ?_, q2⟩, fun x hx y hy => ?_⟩
            · have := q4 _ hx
              rw [show s.dst.toNat = b from hb] at this
              exact hm' this.symm
            · rcases List.mem_cons.1 hy with rfl | hy
              · intro e; rw [e, show s.dst = (b : Int) by omega] at hx; exact p3 hx
              · intro e
                have e1 := p4 x hx
                have e2 := q4 y hy
                rw [e, e2, hub] at e1
                exact hm' e1
          · unfold srcs' at p4 q3 ⊢
            rw [List.map_append, List.map_cons, hbk, List.mem_append, List.mem_cons]
            dsimp only
            rintro (hx | hx | hx)
            · have := p4 _ hx
              rw [Int.toNat_natCast] at this
              exact hcase this.symm
            · have : v = b := by omega
              rw [this] at hva
              exact hm' hva
            · exact q3 hx
          · unfold srcs' at hx
            rw [List.map_append, List.map_cons, hbk, List.mem_append, List.mem_cons] at hx
            dsimp only at hx
            rw [hrG u hu, if_pos hub]
            rcases hx with hx | hx | hx
            · rw [hrG _ (srcN p1 x hx), p4 x hx, if_pos hub]
            · rw [hx, hb, hrG b (by omega), if_pos rfl]
            · rw [hrG _ (srcN q1 x hx), q4 x hx, if_neg (by exact hm')]
          · rw [loS_append, loS_cons, hbk] at h1
            rw [hiS_append, hiS_cons, hbk] at h2
            dsimp only at h1 h2
            obtain ⟨c1, d, c2, r1, r2, r3, r4, r5, r6, rfl⟩ := split3 (lo_le_hi hv (path_ok p1)) (show -s.hi ≤ -s.lo by omega) (lo_le_hi hv (path_ok q1)) h1 h2
            obtain ⟨X1, hX1, hc1⟩ := p5 c1 r1 r2
            obtain ⟨X2, hX2, hc2⟩ := q5 c2 r5 r6
            refine ⟨_, hX2.glue hv hkl hX1 (hr G b) (X2 a - X1 b - d) ?_, ?_⟩
            · rw [hse, ha, hb, hGe]
              dsimp only
              rw [if_pos rfl, if_neg hm']
              omega
            · try dsimp only
              rw [hGe, if_pos hub, if_neg (by rw [← hva]; exact hm')]
              omega
        · -- from the beginning's group to the end's
          have hvb : hr G v = hr G b := by
            rw [if_neg hub] at he
            by_cases hvb : hr G v = hr G b
            · exact hvb
            · rw [if_neg hvb] at he; exact absurd he hcase
          have hua : hr G u = hr G a := by
            rw [if_neg hub, if_pos hvb] at he; exact he
          obtain ⟨R1, p1, p2, p3, p4, p5⟩ := hIH' u a hu (by omega) hua
          obtain ⟨R2, q1, q2, q3, q4, q5⟩ := hIH' b v (by omega) hvn hvb.symm
          rw [hGe] at p4 q4
          refine ⟨R1 ++ ((k : Int) + 1) :: R2, Path.append.2 ⟨a, p1, okf, by rw [hf]; omega, by rw [hf, show s.dst = (b : Int) by omega]; exact q1⟩, ?_, ?_, fun x hx => ?_, fun c h1 h2 => ?_⟩
          · unfold srcs' at p2 q2 ⊢
            rw [List.map_append, List.map_cons, hf, List.nodup_append]
            refine ⟨p2, List.nodup_cons.2 ⟨fun hx => ?_, q2⟩, fun x hx y hy => ?_⟩
            · have := q4 _ hx
              rw [show s.src.toNat = a from ha] at this
              exact hm' this
            · rcases List.mem_cons.1 hy with rfl | hy
              · intro e; rw [e, show s.src = (a : Int) by omega] at hx; exact p3 hx
              · intro e
                have e1 := p4 x hx
                have e2 := q4 y hy
                rw [e, e2, hua] at e1
                exact hm' e1.symm
          · unfold srcs' at p4 q3 ⊢
            rw [List.map_append, List.map_cons, hf, List.mem_append, List.mem_cons]
            rintro (hx | hx | hx)
            · have := p4 _ hx
              rw [Int.toNat_natCast] at this
              exact hcase this.symm
            · have : v = a := by omega
              rw [this] at hvb
              exact hm' hvb
            · exact q3 hx
          · unfold srcs' at hx
            rw [List.map_append, List.map_cons, hf, List.mem_append, List.mem_cons] at hx
            rw [hrG u hu, if_neg hub]
            rcases hx with hx | hx | hx
            · rw [hrG _ (srcN p1 x hx), p4 x hx, if_neg hub]
            · rw [hx, ha, hrG a (by omega), if_neg (by exact hm'), hua]
            · rw [hrG _ (srcN q1 x hx), q4 x hx, if_pos rfl, hua]
          · rw [loS_append, loS_cons, hf] at h1
            rw [hiS_append, hiS_cons, hf] at h2
            obtain ⟨c1, d, c2, r1, r2, r3, r4, r5, r6, rfl⟩ := split3 (lo_le_hi hv (path_ok p1)) o8 (lo_le_hi hv (path_ok q1)) h1 h2
            obtain ⟨X1, hX1, hc1⟩ := p5 c1 r1 r2
            obtain ⟨X2, hX2, hc2⟩ := q5 c2 r5 r6
            refine ⟨_, hX1.glue hv hkl hX2 (hr G b) (X1 a + d - X2 b) ?_, ?_⟩
            · rw [hse, ha, hb, hGe]
              dsimp only
              rw [if_pos rfl, if_neg hm']
              omega
            · try dsimp only
              rw [hGe, if_pos hvb, if_neg hub]
              omega
    · rw [(step_keep hkl hm).1] at he
      obtain ⟨R, w1, w2, w3, w4, w5⟩ := hIH u v hu hvn he
      refine ⟨R, w1, w2, w3, fun x hx => by rw [(step_keep hkl hm).1]; exact w4 x hx, fun c h1 h2 => ?_⟩
      obtain ⟨X, hX, hc⟩ := w5 c h1 h2
      exact ⟨X, hX.keep hm, hc⟩
end Go.Proofs.Ytgamekcjjpjnnaa
