/- What alive looks at: plain facts; the same numbers, walked. -/
import Derived.Test.YtilacamhjibneaaDoorV28
set_option linter.unusedVariables false
namespace Go.Proofs.YtilacamhjibneaaDoor
open Go.RowKit

def fib : List (List Nat) := [[0, 1], [0]]
def pow2 : List (List Nat) := [[0, 1], [1]]
def thue : List (List Nat) := [[0, 1], [1, 0]]
theorem wf_fib : WF fib := ⟨by decide, by decide, by decide⟩
theorem wf_pow2 : WF pow2 := ⟨by decide, by decide, by decide⟩
theorem wf_thue : WF thue := ⟨by decide, by decide, by decide⟩

theorem livF_fib : ∀ y, livF fib y = [true, true]
  | 0 => by decide
  | y + 1 => by
    show lvF fib (livF fib y) fib.length = _
    rw [livF_fib y]
    decide
theorem maps_fib : MapsAt fib := fun k t fb g cap w ht hl hfb hbl => by
  have hlive : ∀ c ∈ t, atB (livV fib k) c = true := fun c hc => by
    have := ht c hc
    unfold livV
    rw [livF_fib]
    have h2 : c < 2 := this
    match c, h2 with
    | 0, _ => rfl
    | 1, _ => rfl
  have hf : (t.filter fun c => atB (livV fib k) c) = t := List.filter_eq_self.2 hlive
  rw [hf]
  have hlen : (livV fib k).length = fib.length := livF_len fib _
  exact map_same (livV fib k) t fb g cap w (by rw [hlen]; exact ht) (by rw [hlen]; decide) hl hlive (by rw [hlen]; exact hfb) hbl
theorem grow_fib : growV fib [0] 3 = .tuple #[.string (str [0, 1, 0, 0, 1]), .int .i64 0] := by
  unfold growV
  rw [if_pos (by decide +kernel)]
  have : grw fib 3 [0] = [0, 1, 0, 0, 1] := by decide +kernel
  rw [this]
theorem fits_fib : sumV (agedF fib [0] 3) ≤ 100000 → Fits fib 3 [0] := fun _ => by
  unfold Fits Fits Fits Fits
  decide +kernel
theorem kind_pow2 : kindV pow2 [0] = .tuple #[.int .i64 2, .int .i64 1, .int .i64 0] := by
  unfold kindV
  have h1 : kindB pow2 [0] = 2 := by decide +kernel
  have h2 : kindM pow2 [0] = 2 := by decide +kernel
  rw [h1, h2, if_pos rfl]
  rfl
theorem rec_pow2 : recV pow2 = [2, -1] := by decide +kernel
theorem bud_thue : budV thue 0 = true := by decide +kernel

/-- Two letters of a pair are different. -/
def Paired (l : List Nat) : Prop := ∃ m : List Nat, l = m.flatMap (fun x => if x = 0 then [0, 1] else [1, 0])
theorem part_thue (c : Nat) (h : c < 2) : part thue c = if c = 0 then [0, 1] else [1, 0] := by
  match c, h with
  | 0, _ => rfl
  | 1, _ => rfl
theorem bg_thue : ∀ k, (bg thue 0 k).length = 2 * (k + 1) ∧ Paired (bg thue 0 k)
  | 0 => ⟨rfl, [0], rfl⟩
  | k + 1 => by
    obtain ⟨h1, m, h2⟩ := bg_thue k
    have hlt : at0 (bg thue 0 k) (k + 1) < 2 := bg_lt wf_thue 0 k _ (at0_mem (by omega))
    rw [bg, part_thue _ hlt]
    refine ⟨?_, m ++ [at0 (bg thue 0 k) (k + 1)], ?_⟩
    · rw [List.length_append, h1]
      split <;> simp <;> omega
    · rw [List.flatMap_append, ← h2]
      simp
theorem fed_thue (many : Nat) : Fed thue 0 many := fun k _ => by
  rw [(bg_thue k).1]
  omega
theorem bg_prefix (V : List (List Nat)) (i : Nat) (j : Nat) : ∀ k, ∃ m, bg V i (j + k) = bg V i j ++ m
  | 0 => ⟨[], by simp⟩
  | k + 1 => by
    obtain ⟨m, h⟩ := bg_prefix V i j k
    refine ⟨m ++ part V (at0 (bg V i (j + k)) (j + k + 1)), ?_⟩
    rw [show j + (k + 1) = (j + k) + 1 from rfl, bg, ← List.append_assoc, ← h]

theorem nodup_len {α : Type} [DecidableEq α] : ∀ (l m : List α), l.Nodup → (∀ x ∈ l, x ∈ m) → l.length ≤ m.length
  | [], m, _, _ => Nat.zero_le _
  | x :: l, m, hn, hs => by
    have hx := hs x (by simp)
    have h1 := nodup_len l (m.erase x) (List.nodup_cons.1 hn).2 (fun y hy => by
      have hne : y ≠ x := fun e => (List.nodup_cons.1 hn).1 (e ▸ hy)
      exact (List.mem_erase_of_ne hne).2 (hs y (by simp [hy])))
    have h2 := List.length_erase_of_mem hx
    have h3 : 0 < m.length := List.length_pos_of_mem hx
    simp only [List.length_cons]
    omega
theorem dis_inv : ∀ (n : Nat) (S : List (List Nat)), S.length = n → (dis S).Nodup ∧ ∀ x, x ∈ dis S ↔ x ∈ S := by
  intro n
  induction n with
  | zero =>
    intro S hS
    obtain rfl := List.length_eq_zero_iff.1 hS
    exact ⟨List.nodup_nil, fun x => Iff.rfl⟩
  | succ n ih =>
    intro S hS
    obtain ⟨T, x, rfl⟩ : ∃ T x, S = T ++ [x] := ⟨S.dropLast, S.getLast (by intro h; simp [h] at hS), (List.dropLast_concat_getLast _).symm⟩
    obtain ⟨h1, h2⟩ := ih T (by simpa using hS)
    rw [dis_snoc]
    by_cases h : x ∈ dis T
    · rw [if_pos h]
      refine ⟨h1, fun y => ?_⟩
      rw [h2 y, List.mem_append, List.mem_singleton]
      exact ⟨.inl, fun hy => hy.elim id (fun e => e ▸ (h2 x).1 h)⟩
    · rw [if_neg h]
      refine ⟨List.nodup_append.2 ⟨h1, by simp, fun a ha b hb e => ?_⟩, fun y => ?_⟩
      · simp at hb
        subst hb
        subst e
        exact h ha
      · rw [List.mem_append, List.mem_append, h2 y]
def six : List (List Nat) := [[0, 1, 1], [1, 1, 0], [1, 0, 1], [0, 1, 0], [1, 0, 0], [0, 0, 1]]
theorem three_of_pairs : ∀ (m : List Nat) (i : Nat), i + 3 ≤ (m.flatMap (fun x => if x = 0 then [0, 1] else [1, 0])).length → ((m.flatMap (fun x => if x = 0 then [0, 1] else [1, 0])).drop i).take 3 ∈ six
  | [], i, h => by simp at h
  | x :: m, i + 2, h => by
    rw [List.flatMap_cons] at h ⊢
    have hl : ((if x = 0 then [0, 1] else [1, 0]) : List Nat).length = 2 := by split <;> rfl
    have hd : (((if x = 0 then [0, 1] else [1, 0]) : List Nat) ++ m.flatMap (fun x => if x = 0 then [0, 1] else [1, 0])).drop (i + 2) = (m.flatMap (fun x => if x = 0 then [0, 1] else [1, 0])).drop i := by
      rw [List.drop_append, List.drop_of_length_le (by omega), hl]
      simp
    rw [hd]
    exact three_of_pairs m i (by rw [List.length_append, hl] at h; omega)
  | [x], 0, h => by
    exfalso
    rw [List.flatMap_cons] at h
    have hl : ((if x = 0 then [0, 1] else [1, 0]) : List Nat).length = 2 := by split <;> rfl
    simp [hl] at h
  | x :: y :: m, 0, h => by
    simp only [List.flatMap_cons, List.drop_zero]
    by_cases hx : x = 0 <;> by_cases hy : y = 0 <;> simp [hx, hy, six]
  | [x], 1, h => by
    exfalso
    rw [List.flatMap_cons] at h
    have hl : ((if x = 0 then [0, 1] else [1, 0]) : List Nat).length = 2 := by split <;> rfl
    simp [hl] at h
  | x :: y :: m, 1, h => by
    simp only [List.flatMap_cons]
    by_cases hx : x = 0 <;> by_cases hy : y = 0 <;> simp [hx, hy, six]
theorem fac_thue (K : Nat) (hK : 100000 ≤ (bg thue 0 K).length) : facV ((bg thue 0 K).take 100000) 3 = 6 := by
  obtain ⟨hlen, m, hm⟩ := bg_thue K
  obtain ⟨l, hl⟩ : ∃ l, (bg thue 0 K).take 100000 = l := ⟨_, rfl⟩
  have hll : l.length = 100000 := by rw [← hl, List.length_take]; omega
  rw [hl]
  unfold facV
  obtain ⟨hnd, hmem⟩ := dis_inv _ (win l 3 (l.length + 1 - 3)) rfl
  have hup := nodup_len _ six hnd (fun x hx => by
    obtain ⟨i, hi, rfl⟩ := List.mem_map.1 ((hmem x).1 hx)
    have hi' : i < l.length + 1 - 3 := List.mem_range.1 hi
    have e : (l.drop i).take 3 = ((bg thue 0 K).drop i).take 3 := by
      rw [← hl, List.drop_take, List.take_take, Nat.min_eq_left (by omega)]
    rw [e, hm]
    exact three_of_pairs m i (by rw [← hm]; omega))
  have h12 : ∃ r, l = bg thue 0 5 ++ r := by
    obtain ⟨r, hr⟩ := bg_prefix thue 0 5 (K - 5)
    rw [show 5 + (K - 5) = K by omega] at hr
    have h5 : (bg thue 0 5).length = 12 := (bg_thue 5).1
    refine ⟨r.take (100000 - 12), ?_⟩
    rw [← hl, hr, List.take_append, h5, List.take_of_length_le (by omega)]
  obtain ⟨r, hr⟩ := h12
  have hlow := nodup_len six (dis (win l 3 (l.length + 1 - 3))) (by decide) (fun x hx => by
    rw [hmem x]
    have h9 : x ∈ (List.range 10).map (fun i => ((bg thue 0 5).drop i).take 3) := by
      revert x
      decide +kernel
    obtain ⟨i, hi, rfl⟩ := List.mem_map.1 h9
    have hi' : i < 10 := List.mem_range.1 hi
    refine List.mem_map.2 ⟨i, List.mem_range.2 (by omega), ?_⟩
    have h5 : (bg thue 0 5).length = 12 := (bg_thue 5).1
    rw [hr, List.drop_append, List.take_append, List.length_drop, h5, show 3 - (12 - i) = 0 by omega, List.take_zero, List.append_nil])
  have : six.length = 6 := rfl
  omega

/-- A slice of whole numbers, or none. -/
def SlI (w : World) (v : Value) (X : List Int) : Prop := ∃ ao g off c, v = .slice ao X.length c ∧ (X = [] ∨ ao = some ⟨g, off, none⟩) ∧ IntsAt w g off X
def samI (X Y : List Int) : Nat → Bool
  | 0 => true
  | k + 1 => samI X Y k && decide (X[k]?.getD 0 = Y[k]?.getD 0)
theorem samI_bad {X Y : List Int} {j : Nat} (h : ¬ X[j]?.getD 0 = Y[j]?.getD 0) : ∀ k, j < k → samI X Y k = false
  | 0, hk => by omega
  | k + 1, hk => by
    rw [samI]
    by_cases hj : j = k
    · subst hj; rw [decide_eq_false h, Bool.and_false]
    · rw [samI_bad h k (by omega), Bool.false_and]
theorem samI_iff {X Y : List Int} (hl : X.length = Y.length) : samI X Y X.length = decide (X = Y) := by
  have h1 : ∀ k, samI X Y k = true ↔ ∀ j, j < k → X[j]?.getD 0 = Y[j]?.getD 0 := by
    intro k
    induction k with
    | zero => simp [samI]
    | succ k ih =>
      rw [samI, Bool.and_eq_true, ih, decide_eq_true_eq]
      exact ⟨fun ⟨a, b⟩ j hj => if h : j = k then h ▸ b else a j (by omega), fun h => ⟨fun j hj => h j (by omega), h k (by omega)⟩⟩
  by_cases hxy : X = Y
  · subst hxy
    rw [decide_eq_true rfl, h1]
    exact fun _ _ => rfl
  · rw [decide_eq_false hxy]
    cases hs : samI X Y X.length with
    | false => rfl
    | true =>
      exfalso
      apply hxy
      apply List.ext_getElem hl
      intro j hj hj'
      have := (h1 _).1 hs j hj
      simpa [List.getElem?_eq_getElem hj, List.getElem?_eq_getElem hj'] using this

set_option maxRecDepth 100000 in
set_option maxHeartbeats 1000000 in
theorem same_any (X Y : List Int) (v u : Value) (w : World) (hX : SlI w v X) (hY : SlI w u Y) (hXl : X.length ≤ 1000000) (hYl : Y.length ≤ 1000000) :
    Calls Tryd.prog 21 #[v, u] w fun e w' => e = .returned (.bool (decide (X = Y))) ∧ ∃ q, w' = w.drewN q := by
  obtain ⟨ao, g, off, c, rfl, ha, hI⟩ := hX
  obtain ⟨bo, gb, boff, d, rfl, hb, hJ⟩ := hY
  by_cases hl : X.length = Y.length
  · have HS := Lib.hid (samI_iff hl)
    have HB := Lib.hid (fun j (h : ¬ X[j]?.getD 0 = Y[j]?.getD 0) => samI_bad h)
    have HI := Lib.hid hI; have HJ := Lib.hid hJ; have HA := Lib.hid ha; have HBo := Lib.hid hb
    obtain ⟨n, hn⟩ : ∃ n, X.length = n := ⟨_, rfl⟩
    have HN := Lib.hid hn; have HM := Lib.hid (show Y.length = n by omega)
    rw [← hl]
    rw [hn] at hXl ⊢
    clear hl hn hI hJ ha hb hYl
    go_enter Tryd.func21, Tryd.ntmps21
    go_wp2_with fail
    go_loopg [5] n (fun gm jv wr => ∃ j q : Nat, j ≤ n ∧ gm = n - j ∧ jv = .int .i64 j ∧ samI X Y j = true ∧ wr = w.drewN q)
    case atStart => exact ⟨0, 0, by omega, by omega, rfl, rfl, rfl⟩
    case round =>
      obtain ⟨j, q, hj, rfl, rfl, hs, rfl⟩ := hrel
      have HSJ := Lib.hid hs
      clear hs
      by_cases hjn : j < n
      · have d0 : decide (j < n) = true := by simpa using hjn
        obtain rfl := HA.out.resolve_left (fun e => by have := HN.out; rw [e] at this; simp at this; omega)
        obtain rfl := HBo.out.resolve_left (fun e => by have := HM.out; rw [e] at this; simp at this; omega)
        have hjX : j < X.length := by rw [HN.out]; exact hjn
        have hjY : j < Y.length := by rw [HM.out]; exact hjn
        have x1 := HI.out j hjX
        have y1 := HJ.out j hjY
        have HXJ : Hid (X[j]?.getD 0 = X[j]) := Lib.hid (by rw [List.getElem?_eq_getElem hjX]; rfl)
        have HYJ : Hid (Y[j]?.getD 0 = Y[j]) := Lib.hid (by rw [List.getElem?_eq_getElem hjY]; rfl)
        obtain ⟨x, hx⟩ : ∃ x, X[j] = x := ⟨_, rfl⟩
        obtain ⟨y, hy⟩ : ∃ y, Y[j] = y := ⟨_, rfl⟩
        rw [hx] at x1 HXJ
        rw [hy] at y1 HYJ
        have HSN := Lib.hid (show samI X Y (j + 1) = (samI X Y j && decide (X[j]?.getD 0 = Y[j]?.getD 0)) from rfl)
        rw [HXJ.out, HYJ.out, HSJ.out] at HSN
        have HBJ := Lib.hid (HB.out j)
        rw [HXJ.out, HYJ.out] at HBJ
        clear hx hy hjX hjY
        by_cases hxy : x = y
        · rw [decide_eq_true hxy] at HSN
          subst hxy
          go_wp2_with fail
          go_quiet (fail)
          go_wp2_with fail
          go_roundg (n - (j + 1))
          case measure => omega
          case rel => exact ⟨j + 1, q + nq, by omega, rfl, by go_num, HSN.out, by simp⟩
        · have HSF := Lib.hid (HBJ.out hxy n hjn)
          go_wp2_with fail
          go_quiet (fail)
          go_wp2_with fail
          go_ret
          exact ⟨by rw [← HS.out, HN.out, HSF.out]; rfl, q + nq, by simp⟩
      · obtain rfl : j = n := by omega
        go_wp2_with fail
        go_ret
        exact ⟨by rw [← HS.out, HN.out, HSJ.out]; rfl, q, rfl⟩
  · have HF := Lib.hid (show decide (X = Y) = false from decide_eq_false (fun e => hl (by rw [e])))
    have hl' : ¬ (X.length : Int) = (Y.length : Int) := by omega
    clear hI hJ ha hb
    go_enter Tryd.func21, Tryd.ntmps21
    go_wp2_with fail
    go_ret
    exact ⟨by rw [HF.out]; rfl, 0, rfl⟩
end Go.Proofs.YtilacamhjibneaaDoor
