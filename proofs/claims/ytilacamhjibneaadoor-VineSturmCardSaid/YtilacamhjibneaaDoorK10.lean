/- Texts on the vines, laid together (V80, V81, V82, V83, V84, V85, V86, V87, V88, V89). Their conditions are their premises. -/
import Derived.Test.YtilacamhjibneaaDoorK9
import Derived.Test.YtilacamhjibneaaDoorK6
import Derived.Test.YtilacamhjibneaaDoorK3
import Derived.Test.YtilacamhjibneaaDoorK7
import Derived.Test.YtilacamhjibneaaDoorK4
set_option linter.unusedVariables false
/- What dies: a part's kind is 0 if and only if nothing is left of it after as many years as there are parts. Plain facts. Their conditions are their premises. -/
namespace Go.Proofs.YtilacamhjibneaaDoor
open Go.RowKit

/-- The parts that one comes by, step by step. -/
def Walk (V : List (List Nat)) : Nat → List Nat → Prop
  | _, [] => True
  | c, d :: l => d ∈ part V c ∧ Walk V d l
theorem gen_one (V : List (List Nat)) (y c : Nat) : gen V (y + 1) [c] = gen V y (part V c) := by
  rw [gen_cons, gen_nil, List.append_nil]
theorem gen_mem (V : List (List Nat)) : ∀ (y : Nat) (s : List Nat) (d : Nat), d ∈ gen V y s ↔ ∃ c ∈ s, d ∈ gen V y [c]
  | y, [], d => by rw [gen_nil]; simp
  | y, c :: s, d => by
    have h := gen_app V y [c] s
    rw [List.singleton_append] at h
    rw [h, List.mem_append, gen_mem V y s d]
    simp
theorem gen_none_mem (V : List (List Nat)) (y : Nat) (s : List Nat) : gen V y s = [] ↔ ∀ c ∈ s, gen V y [c] = [] := by
  constructor
  · intro h c hc
    cases hg : gen V y [c] with
    | nil => rfl
    | cons d l =>
      have : d ∈ gen V y s := (gen_mem V y s d).2 ⟨c, hc, by rw [hg]; simp⟩
      rw [h] at this
      cases this
  · intro h
    cases hg : gen V y s with
    | nil => rfl
    | cons d l =>
      obtain ⟨c, hc, hd⟩ := (gen_mem V y s d).1 (by rw [hg]; simp)
      rw [h c hc] at hd
      cases hd
/-- A walk of as many steps as there are years. -/
theorem gen_walk (V : List (List Nat)) : ∀ (y c : Nat), gen V y [c] ≠ [] → ∃ l, l.length = y ∧ Walk V c l
  | 0, c, _ => ⟨[], rfl, trivial⟩
  | y + 1, c, h => by
    rw [gen_one] at h
    have : ∃ d ∈ part V c, gen V y [d] ≠ [] := by
      by_cases hh : ∀ d ∈ part V c, gen V y [d] = []
      · exact absurd ((gen_none_mem V y _).2 hh) h
      · simpa using hh
    obtain ⟨d, hd, h2⟩ := this
    obtain ⟨l, hl, hw⟩ := gen_walk V y d h2
    exact ⟨d :: l, by rw [List.length_cons, hl], hd, hw⟩
theorem walk_path {V : List (List Nat)} : ∀ {l : List Nat} {c : Nat}, Walk V c l → ∀ d ∈ l, TC V c d
  | [], _, _, _, h => by cases h
  | e :: l, c, ⟨h1, h2⟩, d, hd => by
    rcases List.mem_cons.1 hd with rfl | hd
    · exact ⟨d, h1, .refl⟩
    · exact TC.trans ⟨e, h1, .refl⟩ (walk_path h2 d hd)
theorem walk_twice {V : List (List Nat)} : ∀ {l : List Nat} {c : Nat}, Walk V c l → ¬ (c :: l).Nodup → ∃ j ∈ c :: l, TC V j j
  | [], c, _, h => absurd (by simp) h
  | e :: l, c, ⟨h1, h2⟩, h => by
    by_cases hc : c ∈ e :: l
    · exact ⟨c, by simp, walk_path (show Walk V c (e :: l) from ⟨h1, h2⟩) c hc⟩
    · have h3 : ¬ (e :: l).Nodup := fun hn => h (List.nodup_cons.2 ⟨hc, hn⟩)
      obtain ⟨j, hj, h4⟩ := walk_twice h2 h3
      exact ⟨j, by simp at hj ⊢; exact .inr hj, h4⟩
theorem walk_lt {V : List (List Nat)} (hV : WF V) : ∀ {l : List Nat} {c : Nat}, Walk V c l → c < V.length → ∀ d ∈ c :: l, d < V.length
  | [], c, _, hc, d, hd => by simp at hd; omega
  | e :: l, c, ⟨h1, h2⟩, hc, d, hd => by
    rcases List.mem_cons.1 hd with rfl | hd
    · exact hc
    · exact walk_lt hV h2 ((hV.part_le c).2 e h1) d hd
/-- What lives as long as there are parts comes by a ring. -/
theorem ring_of_lives {V : List (List Nat)} (hV : WF V) {c : Nat} (hc : c < V.length) (h : gen V V.length [c] ≠ []) : ∃ j, j < V.length ∧ cm (comesM V) c j = true ∧ 0 < backV V j := by
  obtain ⟨l, hl, hw⟩ := gen_walk V V.length c h
  have hnd : ¬ (c :: l).Nodup := fun hn => by
    have := nodup_le (c :: l) (List.range V.length) hn (fun d hd => List.mem_range.2 (walk_lt hV hw hc d hd))
    simp [hl] at this
    omega
  obtain ⟨j, hj, ht⟩ := walk_twice hw hnd
  have hjl := walk_lt hV hw hc j hj
  refine ⟨j, hjl, ?_, (back_reach hV hjl).2 ((reach_iff hV hjl hjl).2 ht)⟩
  rw [reach_cm hV hc hjl]
  rcases List.mem_cons.1 hj with rfl | hj
  · simp
  · rw [(reach_iff hV hc hjl).2 (walk_path hw j hj)]
    simp
theorem gen_path {V : List (List Nat)} {c d : Nat} (h : Path V c d) : ∃ y, d ∈ gen V y [c] := by
  induction h with
  | refl => exact ⟨0, by simp [gen]⟩
  | @step j e h1 he ih =>
    obtain ⟨y, hy⟩ := ih
    refine ⟨y + 1, ?_⟩
    rw [gen_succ]
    unfold grow1
    exact List.mem_flatMap.2 ⟨j, hy, he⟩
/-- What is left later was left before. -/
theorem gen_later {V : List (List Nat)} {s : List Nat} {y : Nat} (h : gen V y s = []) : ∀ k, gen V (y + k) s = []
  | 0 => h
  | k + 1 => by
    rw [← Nat.add_assoc, gen_succ, gen_later h k]
    rfl
/-- What comes by a ring lives for ever. -/
theorem lives_of_ring {V : List (List Nat)} (hV : WF V) {c j : Nat} (hc : c < V.length) (hj : j < V.length) (h1 : cm (comesM V) c j = true) (h2 : 0 < backV V j) (y : Nat) : gen V y [c] ≠ [] := by
  -- for every number of years there is a later one in which the ring's part stands
  have hr := (reach_iff hV hj hj).1 ((back_reach hV hj).1 h2)
  obtain ⟨e, he, hp⟩ := hr
  obtain ⟨p, hp2⟩ := gen_path hp
  have hring : j ∈ gen V (p + 1) [j] := by
    rw [gen_one]
    exact (gen_mem V p _ j).2 ⟨e, he, hp2⟩
  have hadd : ∀ a b s, gen V (a + b) s = gen V b (gen V a s) := by
    intro a b
    induction b with
    | zero => intro s; rfl
    | succ b ih => intro s; rw [← Nat.add_assoc, gen_succ, ih, gen_succ]
  have hmany : ∀ k, j ∈ gen V (k * (p + 1)) [j] := by
    intro k
    induction k with
    | zero => simp [gen]
    | succ k ih =>
      rw [Nat.succ_mul, hadd]
      exact (gen_mem V _ _ j).2 ⟨j, ih, hring⟩
  obtain ⟨q, hq⟩ := gen_path ((cm_iff hV hc j).1 h1)
  intro h0
  have h3 : j ∈ gen V (q + y * (p + 1)) [c] := by
    rw [hadd]
    exact (gen_mem V _ _ j).2 ⟨j, hq, hmany y⟩
  have h4 := gen_later h0 (q + y * (p + 1) - y)
  have h5 : y ≤ q + y * (p + 1) := by
    have : y * 1 ≤ y * (p + 1) := Nat.mul_le_mul_left _ (by omega)
    omega
  rw [show y + (q + y * (p + 1) - y) = q + y * (p + 1) by omega] at h4
  rw [h4] at h3
  cases h3
end Go.Proofs.YtilacamhjibneaaDoor

/- A part's kind is 0 if and only if it dies; buds; the endless shoot of a bud never ends. Plain facts. Their conditions are their premises. -/
namespace Go.Proofs.YtilacamhjibneaaDoor
open Go.RowKit

theorem mxF_zero {g : Nat → Nat} {p : Nat → Bool} : ∀ {k : Nat}, mxF g p k = 0 ↔ ∀ j, j < k → p j = true → g j = 0
  | 0 => by simp [mxF]
  | k + 1 => by
    unfold mxF
    have ih := mxF_zero (g := g) (p := p) (k := k)
    by_cases h : p k = true
    · rw [if_pos h]
      constructor
      · intro h1 j hj hp
        by_cases hjk : j = k
        · subst hjk; omega
        · exact ih.1 (by omega) j (by omega) hp
      · intro h1
        have := ih.2 (fun j hj => h1 j (by omega))
        have := h1 k (by omega) h
        omega
    · rw [if_neg h]
      constructor
      · intro h1 j hj hp
        by_cases hjk : j = k
        · subst hjk; exact absurd hp h
        · exact ih.1 h1 j (by omega) hp
      · intro h1
        exact ih.2 (fun j hj => h1 j (by omega))
theorem cm_trans {V : List (List Nat)} (hV : WF V) {i j k : Nat} (hi : i < V.length) (hj : j < V.length) (h1 : cm (comesM V) i j = true) (h2 : cm (comesM V) j k = true) : cm (comesM V) i k = true :=
  (cm_iff hV hi k).2 (((cm_iff hV hi j).1 h1).trans ((cm_iff hV hj k).1 h2))
theorem chF_tame {V : List (List Nat)} (hV : WF V) : ∀ (f c : Nat), c < V.length → rk V c ≤ f → chF V f c = 0 → ∀ j, j < V.length → cm (comesM V) c j = true → backV V j = 0
  | 0, c, hc, hr, _, _, _, _ => by have := rk_pos hV hc; omega
  | f + 1, c, hc, hr, h, j, hj, hcj => by
    unfold chF at h
    have hb : ¬ 0 < backV V c := fun hb => by rw [if_pos hb] at h; omega
    have hm : mxF (chF V f) (dn V c) V.length = 0 := by omega
    by_cases hjc : j = c
    · subst hjc; omega
    · by_cases hback : cm (comesM V) j c = true
      · exfalso
        apply hb
        rw [back_reach hV hc, reach_iff hV hc hc]
        have h1 := reach_cm hV hc hj
        rw [hcj, decide_eq_false hjc, Bool.false_or] at h1
        have h2 := reach_cm hV hj hc
        rw [hback, decide_eq_false (fun e => hjc e.symm), Bool.false_or] at h2
        exact TC.trans ((reach_iff hV hc hj).1 h1.symm) ((reach_iff hV hj hc).1 h2.symm)
      · have hdn : dn V c j = true := by
          unfold dn
          rw [hcj, decide_eq_false hjc]
          simp at hback
          simp [hback]
        have h1 := mxF_zero.1 hm j hj hdn
        exact chF_tame hV f j hj (by have := rk_dn hV hc hj hdn; omega) h1 j hj ((cm_iff hV hj j).2 .refl)
theorem tame_chF {V : List (List Nat)} (hV : WF V) : ∀ (f c : Nat), c < V.length → (∀ j, j < V.length → cm (comesM V) c j = true → backV V j = 0) → chF V f c = 0
  | 0, _, _, _ => rfl
  | f + 1, c, hc, h => by
    unfold chF
    have hb := h c hc ((cm_iff hV hc c).2 .refl)
    rw [if_neg (by omega), Nat.zero_add]
    refine mxF_zero.2 (fun j hj hdn => tame_chF hV f j hj (fun k hk hjk => h k hk (cm_trans hV hc hj ?_ hjk)))
    unfold dn at hdn
    simp at hdn
    exact hdn.1.2
theorem wlF_false {V : List (List Nat)} {i : Nat} : ∀ {k : Nat}, (∀ j, j < k → ¬ (cm (comesM V) i j && decide (1 < backV V j)) = true) → wlF V i k = false
  | 0, _ => rfl
  | k + 1, h => by
    unfold wlF
    rw [if_neg (h k (by omega))]
    exact wlF_false (fun j hj => h j (by omega))
theorem kind_zero {V : List (List Nat)} (hV : WF V) {c : Nat} (hc : c < V.length) : natK V c = 0 ↔ gen V V.length [c] = [] := by
  have key : natK V c = 0 ↔ ∀ j, j < V.length → cm (comesM V) c j = true → backV V j = 0 := by
    constructor
    · intro h
      have hw : wildV V c = false := by
        cases hw : wildV V c with
        | false => rfl
        | true => unfold natK at h; rw [if_pos hw] at h; omega
      have h2 := (natK_tame hw).2
      rw [h] at h2
      have h3 : chF V V.length c = 0 := by
        by_cases h1 : 1 < chF V V.length c
        · rw [if_pos h1] at h2; omega
        · rw [if_neg h1] at h2
          by_cases h4 : chF V V.length c = 1
          · rw [if_pos h4] at h2; omega
          · omega
      exact chF_tame hV V.length c hc (rk_le V c) h3
    · intro h
      have hw : wildV V c = false := wlF_false (fun j hj hb => by
        rw [Bool.and_eq_true, decide_eq_true_eq] at hb
        have := h j hj hb.1
        omega)
      rw [(natK_tame hw).2, tame_chF hV V.length c hc h]
      rfl
  rw [key]
  constructor
  · intro h
    by_cases hg : gen V V.length [c] = []
    · exact hg
    · obtain ⟨j, hj, h1, h2⟩ := ring_of_lives hV hc hg
      have := h j hj h1
      omega
  · intro hg j hj h1
    by_cases hb : 0 < backV V j
    · exact absurd hg (lives_of_ring hV hc hj h1 hb V.length)
    · omega
/-- diesI is not below 0 if and only if nothing is left at last. -/
theorem diI_neg {V : List (List Nat)} {t : List Nat} : ∀ (f y : Nat), diI V t f y < 0 ↔ ∀ d, d < f → ¬ (gen V (y + d) t).length = 0
  | 0, y => by simp [diI]
  | f + 1, y => by
    rw [diI]
    by_cases h : (gen V y t).length = 0
    · rw [if_pos h]
      constructor
      · intro h1; omega
      · intro h1; exact absurd h (h1 0 (by omega))
    · rw [if_neg h, diI_neg f (y + 1)]
      constructor
      · intro h1 d hd
        cases d with
        | zero => exact h
        | succ d => have := h1 d (by omega); rwa [show y + 1 + d = y + (d + 1) by omega] at this
      · intro h1 d hd
        have := h1 (d + 1) (by omega)
        rwa [show y + (d + 1) = y + 1 + d by omega] at this
theorem diesI_neg {V : List (List Nat)} {t : List Nat} : diesI V t < 0 ↔ gen V V.length t ≠ [] := by
  unfold diesI
  rw [diI_neg]
  constructor
  · intro h e
    exact h V.length (by omega) (by rw [Nat.zero_add, e]; rfl)
  · intro h d hd e
    rw [Nat.zero_add] at e
    have := gen_later (List.eq_nil_of_length_eq_zero e) (V.length - d)
    rw [show d + (V.length - d) = V.length by omega] at this
    exact h this
/-- What lives, of a string: some letter. -/
theorem any_lives {V : List (List Nat)} (hV : WF V) {s : List Nat} (hs : ∀ c ∈ s, c < V.length) : decide (diesI V s < 0) = s.any (kindP V) := by
  rw [Bool.eq_iff_iff, decide_eq_true_eq, diesI_neg, List.any_eq_true, Ne, gen_none_mem]
  constructor
  · intro h
    by_cases hh : ∃ c ∈ s, kindP V c = true
    · exact hh
    · exfalso
      apply h
      intro c hc
      refine (kind_zero hV (hs c hc)).1 ?_
      by_cases h0 : natK V c = 0
      · exact h0
      · exact absurd ⟨c, hc, by unfold kindP; simp; omega⟩ hh
  · rintro ⟨c, hc, hk⟩ h
    have := (kind_zero hV (hs c hc)).2 (h c hc)
    unfold kindP at hk
    simp at hk
    omega
end Go.Proofs.YtilacamhjibneaaDoor

/- The endless shoot of a bud never ends. Plain facts. Their conditions are their premises. -/
namespace Go.Proofs.YtilacamhjibneaaDoor
open Go.RowKit

theorem bud_parts {V : List (List Nat)} {i : Nat} (h : budV V i = true) : ∃ r, part V i = i :: r ∧ ∃ c ∈ r, kindP V c = true := by
  unfold budV at h
  rw [Bool.and_eq_true, Bool.and_eq_true, decide_eq_true_eq, decide_eq_true_eq] at h
  obtain ⟨⟨h1, h2⟩, h3⟩ := h
  cases hp : part V i with
  | nil => rw [hp] at h1; simp at h1
  | cons a r =>
    rw [hp] at h2 h3
    have ha : a = i := h2
    subst ha
    exact ⟨r, rfl, by simpa [List.any_eq_true] using h3⟩
theorem kind_lives {V : List (List Nat)} (hV : WF V) {c : Nat} (hc : c < V.length) (h : kindP V c = true) (y : Nat) : gen V y [c] ≠ [] := by
  have h0 : gen V V.length [c] ≠ [] := fun e => by
    have := (kind_zero hV hc).2 e
    unfold kindP at h
    simp at h
    omega
  obtain ⟨j, hj, h1, h2⟩ := ring_of_lives hV hc h0
  exact lives_of_ring hV hc hj h1 h2 y
theorem bud_grows {V : List (List Nat)} (hV : WF V) {i : Nat} (hi : i < V.length) (h : budV V i = true) : ∀ y, y + 1 ≤ (gen V y [i]).length
  | 0 => by simp [gen]
  | y + 1 => by
    obtain ⟨r, hr, c, hc, hk⟩ := bud_parts h
    have hcl : c < V.length := (hV.part_le i).2 c (by rw [hr]; simp [hc])
    have ih := bud_grows hV hi h y
    rw [gen_one, hr]
    have h2 := gen_app V y [i] r
    rw [List.singleton_append] at h2
    rw [h2, List.length_append]
    have h3 : gen V y r ≠ [] := fun e => kind_lives hV hcl hk y ((gen_none_mem V y r).1 e c hc)
    have h4 := List.length_pos_iff.2 h3
    omega
/-- The rounds write what the letters before become. -/
theorem bg_grow {V : List (List Nat)} {i : Nat} (hb : budV V i = true) : ∀ k, (∀ j, j < k → j + 1 < (bg V i j).length) → bg V i k = grow1 V ((bg V i k).take (k + 1)) ∧ k + 1 ≤ (bg V i k).length
  | 0, _ => by
    obtain ⟨r, hr, c, hc, hk⟩ := bud_parts hb
    show part V i = _ ∧ 0 + 1 ≤ (part V i).length
    have e : (bg V i 0).take (0 + 1) = [i] := by show (part V i).take 1 = [i]; rw [hr]; rfl
    rw [e]
    refine ⟨?_, by rw [hr]; simp⟩
    unfold grow1
    simp
  | k + 1, h => by
    obtain ⟨h1, h2⟩ := bg_grow hb k (fun j hj => h j (by omega))
    have hk := h k (by omega)
    have ht : (bg V i k).take (k + 2) = (bg V i k).take (k + 1) ++ [at0 (bg V i k) (k + 1)] := by
      rw [at0_lt_of hk]
      exact (List.take_append_getElem hk).symm
    have h3 : bg V i (k + 1) = grow1 V ((bg V i k).take (k + 2)) := by
      rw [ht]
      unfold grow1 at h1 ⊢
      rw [List.flatMap_append, ← h1, bg]
      simp
    have h4 : (bg V i (k + 1)).take (k + 2) = (bg V i k).take (k + 2) := by
      rw [bg, List.take_append_of_le_length (by omega)]
    refine ⟨by rw [h4]; exact h3, ?_⟩
    rw [bg, List.length_append]
    omega
theorem fed_bud {V : List (List Nat)} (hV : WF V) {i : Nat} (hi : i < V.length) (hb : budV V i = true) : ∀ k, k + 1 < (bg V i k).length := by
  intro k
  induction k using Nat.strongRecOn with
  | _ k ih =>
    obtain ⟨h1, h2⟩ := bg_grow hb k ih
    by_cases h : k + 1 < (bg V i k).length
    · exact h
    · exfalso
      have hlen : (bg V i k).length = k + 1 := by omega
      rw [List.take_of_length_le (by omega)] at h1
      have hfix : ∀ y, gen V y (bg V i k) = bg V i k := by
        intro y
        induction y with
        | zero => rfl
        | succ y ih2 => rw [gen_succ, ih2, ← h1]
      obtain ⟨r, hr, _⟩ := bud_parts hb
      have hpre : ∃ m, bg V i k = [i] ++ m := by
        obtain ⟨m, hm⟩ := bg_prefix V i 0 k
        rw [Nat.zero_add] at hm
        exact ⟨r ++ m, by rw [hm]; show part V i ++ m = _; rw [hr]; simp⟩
      obtain ⟨m, hm⟩ := hpre
      have h3 := hfix (k + 1)
      have h4 : gen V (k + 1) (bg V i k) = gen V (k + 1) [i] ++ gen V (k + 1) m := by rw [hm]; exact gen_app V _ _ _
      have h5 := bud_grows hV hi hb (k + 1)
      rw [h3] at h4
      have h6 := congrArg List.length h4
      rw [List.length_append, hlen] at h6
      omega
theorem fed_any {V : List (List Nat)} (hV : WF V) {i : Nat} (hi : i < V.length) (hb : budV V i = true) (many : Nat) : Fed V i many := fun k _ => fed_bud hV hi hb k
end Go.Proofs.YtilacamhjibneaaDoor

/- Bud of the reference, walked; the buds of a vine, both. Their conditions are their premises. -/
namespace Go.Proofs.YtilacamhjibneaaDoor
open Go.RowKit

set_option maxRecDepth 100000 in
set_option maxHeartbeats 1000000 in
theorem rbud_any (V : List (List Nat)) (hV : WF V) (i : Nat) (hi : i < V.length) (b off cap : Nat) (w : World) (hv : VAt w b off V) :
    Calls Tryd.prog 67 #[.slice (some ⟨b, off, none⟩) V.length cap, .int .i64 (i : Int)] w fun e w' => e = .returned (.bool (budV V i)) ∧ Chg (fun _ => False) w w' := by
  have hn6 := hV.le
  have c0 := hv i hi
  rw [← part_lt hi] at c0
  have hp8 := (hV.part_le i).1
  have HPC := Lib.hid (hV.part_le i).2
  have HD := Lib.hid (rdies_any V hV (part V i).tail (fun c hc => (hV.part_le i).2 c (List.mem_of_mem_tail hc)) (by rw [List.length_tail]; omega) b off cap w hv)
  have HL := Lib.hid (any_lives hV (s := (part V i).tail) (fun c hc => (hV.part_le i).2 c (List.mem_of_mem_tail hc)))
  have HB := Lib.hid (show budV V i = (decide (2 ≤ (part V i).length) && decide (at0 (part V i) 0 = i) && (part V i).tail.any (kindP V)) from rfl)
  rw [← HL.out] at HB
  obtain ⟨D, hD⟩ : ∃ D, diesI V (part V i).tail = D := ⟨_, rfl⟩
  rw [hD] at HD HB
  clear hD HL hv hV
  obtain ⟨q, hq⟩ : ∃ q, part V i = q := ⟨_, rfl⟩
  rw [hq] at c0 hp8 HPC HD HB
  clear hq
  have hsz := str_size q
  have hst := str_tail q
  by_cases h2 : 2 ≤ q.length
  · have d0 : decide (2 ≤ q.length) = true := by simpa using h2
    have d0' : (2 : Int) ≤ (q.length : Int) := by omega
    rw [d0, Bool.true_and] at HB
    have hq0 : 0 < q.length := by omega
    have hcn := HPC.out _ (List.getElem_mem hq0)
    have HA0 := Lib.hid (at0_lt_of hq0)
    rw [HA0.out] at HB
    have h00 : ∀ h, ((str q)[0]'h).toNat = 97 + q[0] := fun h => str_zero hq0 (by omega) h
    obtain ⟨c, hc⟩ : ∃ c, q[0] = c := ⟨_, rfl⟩
    rw [hc] at hcn HB
    simp only [hc] at h00
    have hmod : (((97 + c : Nat) : Int) - 97) % 256 = (c : Int) := by omega
    obtain ⟨C, hC⟩ : ∃ C, 97 + c = C := ⟨_, rfl⟩
    rw [hC] at hmod
    simp only [hC] at h00
    clear hc hC
    by_cases hci : c = i
    · subst hci
      rw [decide_eq_true rfl, Bool.true_and] at HB
      go_enter Tryd.func67, Tryd.ntmps67
      go_wp2_with fail
      refine HD.out.mono ?_
      rintro e w1 ⟨rfl, hc1⟩
      have HC1 := Lib.hid hc1
      clear hc1
      go_wp2_with fail
      go_ret
      exact ⟨by rw [HB.out]; rfl, HC1.out⟩
    · have hci' : ¬ (c : Int) = (i : Int) := by omega
      rw [decide_eq_false hci, Bool.false_and] at HB
      go_enter Tryd.func67, Tryd.ntmps67
      go_wp2_with fail
      go_ret
      exact ⟨by rw [HB.out]; rfl, Chg.refl _ _⟩
  · have d0 : decide (2 ≤ q.length) = false := by simpa using h2
    have d0' : ¬ (2 : Int) ≤ (q.length : Int) := by omega
    rw [d0, Bool.false_and, Bool.false_and] at HB
    go_enter Tryd.func67, Tryd.ntmps67
    go_wp2_with fail
    go_ret
    exact ⟨by rw [HB.out]; rfl, Chg.refl _ _⟩
end Go.Proofs.YtilacamhjibneaaDoor

/- Endless, both, at any input. Their conditions are their premises. -/
namespace Go.Proofs.YtilacamhjibneaaDoor
open Go.RowKit

def budL (V : List (List Nat)) : Nat → List Nat
  | 0 => []
  | k + 1 => if budV V k = true then budL V k ++ [k] else budL V k
theorem budL_len (V : List (List Nat)) : ∀ k, (budL V k).length ≤ k
  | 0 => Nat.le_refl _
  | k + 1 => by
    have := budL_len V k
    unfold budL
    split
    · rw [List.length_append]; simp; exact this
    · omega
def natI (l : List Nat) : List Int := l.map fun (x : Nat) => (x : Int)
theorem sli_of_owns {w : World} {base : Nat} {v : Value} {X : List Nat} (h : w.ownsRow base 3 1 v X.length (nv X)) : SlI w v (natI X) := by
  have h' : w.ownsRow base 3 1 v X.length ((natI X).map (Value.int .i64)) := by
    unfold natI
    rw [List.map_map]
    exact h
  obtain ⟨ao, g, c, h1, h2, h3, _⟩ := owns_list h'
  exact ⟨ao, g, 0, c, h1, h2, h3⟩
theorem errV_of {V : List (List Nat)} (hV : WF V) : errV (V.map str) = 0 := errV_ok hV

theorem rvine_ok (V : List (List Nat)) (hV : WF V) (b off cap : Nat) (w : World) (hv : VAt w b off V) :
    Calls Tryd.prog 46 #[.slice (some ⟨b, off, none⟩) V.length cap] w fun e w' => e = .returned (.int .i64 0) ∧ w' = w := by
  have h6 := hV.le
  have h := rvine_any (V.map str) (some ⟨b, off, none⟩) cap b off w (strs_of hv) (.inr rfl) (by rw [List.length_map]; omega) (by
    intro p hp
    obtain ⟨q, hq, rfl⟩ := List.mem_map.1 hp
    obtain ⟨k, hk, rfl⟩ := List.getElem_of_mem hq
    have := (hV.part_le k).1
    rw [part_lt hk] at this
    rw [str_size]
    omega)
  rw [errV_ok hV, List.length_map] at h
  exact h

set_option maxRecDepth 100000 in
set_option maxHeartbeats 1000000 in
theorem endless_ok (V : List (List Nat)) (hV : WF V) (b off cap : Nat) (w : World) (hv : VAt w b off V) : Calls Tryd.prog 26 #[.slice (some ⟨b, off, none⟩) V.length cap] w (RetI (natI (budL V V.length)) 0 w) := by
  have hn6 := hV.le
  have HO := Lib.hid (of_ok V hV b off cap w hv)
  have HV := Lib.hid hv; have HWF := Lib.hid hV
  clear hv hV
  go_enter Tryd.func26, Tryd.ntmps26
  go_wp2_with fail
  refine HO.out.mono ?_
  rintro e w1 ⟨rfl, rfl⟩
  go_wp2_with fail
  go_loopg [18, 6] V.length (fun gm kv ov wr => ∃ k : Nat, k ≤ V.length ∧ gm = V.length - k ∧ kv = .int .i64 k ∧ wr.ownsRow w1.heap.size 3 1 ov (budL V k).length (nv (budL V k)) ∧ Chg (fun _ => False) w1 wr)
  case atStart => exact ⟨0, by omega, by omega, rfl, World.ownsRow_nil w1 _ 3 1, Chg.refl _ _⟩
  case round =>
    obtain ⟨k, hk, rfl, rfl, how, hc⟩ := hrel
    have HOW := Lib.hid how; have HC := Lib.hid hc
    clear how hc
    generalize u6 = ov at HOW ⊢
    by_cases hkn : k < V.length
    · have d0 : decide (k < V.length) = true := by simpa using hkn
      have HBD := Lib.hid (bud_any V HWF.out k hkn b off cap wr (HV.out.chg HC.out (fun x => x)))
      have HNX := Lib.hid (show budL V (k + 1) = if budV V k = true then budL V k ++ [k] else budL V k from rfl)
      have HLL := Lib.hid (budL_len V k)
      obtain ⟨x, hx⟩ : ∃ x, budV V k = x := ⟨_, rfl⟩
      rw [hx] at HBD HNX
      clear hx
      cases x
      · rw [if_neg (by simp)] at HNX
        go_wp2_with fail
        refine HBD.out.mono ?_
        rintro e w2 ⟨rfl, hc2⟩
        have HC2 := Lib.hid (HC.out.trans hc2 (fun _ x => x.elim)); have HO2 := Lib.hid (owns_chg HOW.out hc2)
        clear hc2
        go_wp2_with fail
        go_roundg (V.length - (k + 1))
        case measure => omega
        case rel => exact ⟨k + 1, by omega, rfl, by go_num, by rw [HNX.out]; exact HO2.out, HC2.out⟩
      · rw [if_pos rfl] at HNX
        go_wp2_with fail
        refine HBD.out.mono ?_
        rintro e w3 ⟨rfl, hc2⟩
        have HC3 := Lib.hid (HC.out.trans hc2 (fun _ x => x.elim)); have HO3 := Lib.hid (owns_chg HOW.out hc2)
        clear hc2
        obtain ⟨g3, hg3⟩ : ∃ g3, w3.heap.size = g3 := ⟨_, rfl⟩
        have HOA := Lib.hid (owns_chg HO3.out ((Chg.refl (fun _ => False) w3).alloc (.cells #[.int .i64 (k : Int)] 3)))
        have HXX : Hid (NatsAt (w3.alloc (.cells #[.int .i64 (k : Int)] 3)) g3 0 [k]) := Lib.hid (by
          rw [← hg3]
          intro j hj
          obtain rfl : j = 0 := by simpa using hj
          exact (Blk.new w3 #[.int .i64 (k : Int)] 3).cell_some (i := 0) rfl)
        have HCA := Lib.hid (HC3.out.alloc (.cells #[.int .i64 (k : Int)] 3))
        go_wp2_with (at_builtin; refine wpList_app rfl (.tmp 24) (.tmp 26) rfl w1.heap.size ov (budL V k) [k] (by simp [Act.eval]) HOA.out (some ⟨g3, 0, none⟩) 1 (by simp [Act.eval]) (.inr ⟨_, _, rfl, HXX.out⟩) (by have := HLL.out; simp; omega) HCA.out.size ?_; intro v2 w4 hown2 hc4)
        clear hg3
        have HC4 := Lib.hid (chg_new (HCA.out.mono (fun _ x => x.elim)) hc4)
        have HO4 := Lib.hid hown2
        clear hown2 hc4
        go_roundg (V.length - (k + 1))
        case measure => omega
        case rel => exact ⟨k + 1, by omega, rfl, by go_num, by rw [HNX.out]; exact HO4.out, HC4.out⟩
    · obtain rfl : k = V.length := by omega
      have HSL := Lib.hid (sli_of_owns HOW.out)
      go_wp2_with fail
      go_ret2
      exact ⟨⟨_, rfl, HSL.out⟩, HC.out⟩
set_option maxRecDepth 100000 in
set_option maxHeartbeats 1000000 in
theorem rendless_ok (V : List (List Nat)) (hV : WF V) (b off cap : Nat) (w : World) (hv : VAt w b off V) : Calls Tryd.prog 27 #[.slice (some ⟨b, off, none⟩) V.length cap] w (RetI (natI (budL V V.length)) 0 w) := by
  have hn6 := hV.le
  have HO := Lib.hid (rvine_ok V hV b off cap w hv)
  have HV := Lib.hid hv; have HWF := Lib.hid hV
  clear hv hV
  go_enter Tryd.func27, Tryd.ntmps27
  go_wp2_with fail
  refine HO.out.mono ?_
  rintro e w1 ⟨rfl, rfl⟩
  go_wp2_with fail
  go_loopg [6, 5] V.length (fun gm kv ov wr => ∃ k : Nat, k ≤ V.length ∧ gm = V.length - k ∧ kv = .int .i64 k ∧ wr.ownsRow w1.heap.size 3 1 ov (budL V k).length (nv (budL V k)) ∧ Chg (fun _ => False) w1 wr)
  case atStart => exact ⟨0, by omega, by omega, rfl, World.ownsRow_nil w1 _ 3 1, Chg.refl _ _⟩
  case round =>
    obtain ⟨k, hk, rfl, rfl, how, hc⟩ := hrel
    have HOW := Lib.hid how; have HC := Lib.hid hc
    clear how hc
    generalize u5 = ov at HOW ⊢
    by_cases hkn : k < V.length
    · have d0 : decide (k < V.length) = true := by simpa using hkn
      have HBD := Lib.hid (rbud_any V HWF.out k hkn b off cap wr (HV.out.chg HC.out (fun x => x)))
      have HNX := Lib.hid (show budL V (k + 1) = if budV V k = true then budL V k ++ [k] else budL V k from rfl)
      have HLL := Lib.hid (budL_len V k)
      obtain ⟨x, hx⟩ : ∃ x, budV V k = x := ⟨_, rfl⟩
      rw [hx] at HBD HNX
      clear hx
      cases x
      · rw [if_neg (by simp)] at HNX
        go_wp2_with fail
        refine HBD.out.mono ?_
        rintro e w2 ⟨rfl, hc2⟩
        have HC2 := Lib.hid (HC.out.trans hc2 (fun _ x => x.elim)); have HO2 := Lib.hid (owns_chg HOW.out hc2)
        clear hc2
        go_wp2_with fail
        go_roundg (V.length - (k + 1))
        case measure => omega
        case rel => exact ⟨k + 1, by omega, rfl, by go_num, by rw [HNX.out]; exact HO2.out, HC2.out⟩
      · rw [if_pos rfl] at HNX
        go_wp2_with fail
        refine HBD.out.mono ?_
        rintro e w3 ⟨rfl, hc2⟩
        have HC3 := Lib.hid (HC.out.trans hc2 (fun _ x => x.elim)); have HO3 := Lib.hid (owns_chg HOW.out hc2)
        clear hc2
        obtain ⟨g3, hg3⟩ : ∃ g3, w3.heap.size = g3 := ⟨_, rfl⟩
        have HOA := Lib.hid (owns_chg HO3.out ((Chg.refl (fun _ => False) w3).alloc (.cells #[.int .i64 (k : Int)] 3)))
        have HXX : Hid (NatsAt (w3.alloc (.cells #[.int .i64 (k : Int)] 3)) g3 0 [k]) := Lib.hid (by
          rw [← hg3]
          intro j hj
          obtain rfl : j = 0 := by simpa using hj
          exact (Blk.new w3 #[.int .i64 (k : Int)] 3).cell_some (i := 0) rfl)
        have HCA := Lib.hid (HC3.out.alloc (.cells #[.int .i64 (k : Int)] 3))
        go_wp2_with (at_builtin; refine wpList_app rfl (.tmp 21) (.tmp 23) rfl w1.heap.size ov (budL V k) [k] (by simp [Act.eval]) HOA.out (some ⟨g3, 0, none⟩) 1 (by simp [Act.eval]) (.inr ⟨_, _, rfl, HXX.out⟩) (by have := HLL.out; simp; omega) HCA.out.size ?_; intro v2 w4 hown2 hc4)
        clear hg3
        have HC4 := Lib.hid (chg_new (HCA.out.mono (fun _ x => x.elim)) hc4)
        have HO4 := Lib.hid hown2
        clear hown2 hc4
        go_roundg (V.length - (k + 1))
        case measure => omega
        case rel => exact ⟨k + 1, by omega, rfl, by go_num, by rw [HNX.out]; exact HO4.out, HC4.out⟩
    · obtain rfl : k = V.length := by omega
      have HSL := Lib.hid (sli_of_owns HOW.out)
      go_wp2_with fail
      go_ret2
      exact ⟨⟨_, rfl, HSL.out⟩, HC.out⟩

set_option maxRecDepth 100000 in
set_option maxHeartbeats 1000000 in
theorem endless_both (P : List ByteArray) (hn : P.length ≤ 1000) (hz : ∀ p ∈ P, p.size ≤ 1000) :
    ∃ (X : List Int) (e : Int), X.length ≤ 10 ∧ ∀ (v : Value) (w : World), SlS w v P → Calls Tryd.prog 26 #[v] w (RetI X e w) ∧ Calls Tryd.prog 27 #[v] w (RetI X e w) := by
  by_cases he : errV P = 0
  · have hs : errS P ⟨#[]⟩ = 0 := by
      unfold errS
      rw [if_neg (by rw [he]; simp), if_pos (by unfold okShoot okS; rfl)]
    obtain ⟨V, t, rfl, _, hV, _, _⟩ := shot_of hs
    have h6 := hV.le
    have hb := budL_len V V.length
    refine ⟨natI (budL V V.length), 0, by simp [natI]; omega, fun v w hv => ?_⟩
    obtain ⟨ao, b, off, cap, rfl, hst, ha⟩ := hv.form
    have hpos := hV.pos
    obtain rfl := ha.resolve_left (fun e => by have h0 := congrArg List.length e; rw [List.length_map, List.length_nil] at h0; omega)
    have hva := vat_of hst
    rw [List.length_map]
    exact ⟨endless_ok V hV b off cap w hva, rendless_ok V hV b off cap w hva⟩
  · refine ⟨[], (errV P : Nat), by simp, fun v w hv => ?_⟩
    obtain ⟨ao, b, off, cap, rfl, hst, ha⟩ := hv.form
    have HS := Lib.hid (of_any P ao cap b off w hst ha hn hz)
    rw [show ofV ao cap P = .tuple #[.slice none 0 0, .int .i64 (errV P : Nat)] by unfold ofV; rw [if_neg he]] at HS
    have HR := Lib.hid (rvine_any P ao cap b off w hst ha hn hz)
    have HN := Lib.hid (show SlI w (.slice none 0 0) [] from ⟨none, 0, 0, 0, rfl, .inl rfl, fun k hk => by simp at hk⟩)
    obtain ⟨E, hE⟩ : ∃ E, errV P = E := ⟨_, rfl⟩
    rw [hE] at HS HR ⊢
    have dn : (((E : Nat) : Int) != 0) = true := by simpa [hE] using he
    clear hE he hst ha hv
    constructor
    · go_enter Tryd.func26, Tryd.ntmps26
      go_wp2_with fail
      refine HS.out.mono ?_
      rintro e w1 ⟨rfl, rfl⟩
      go_wp2_with fail
      go_ret2
      exact ⟨⟨_, rfl, HN.out⟩, Chg.refl _ _⟩
    · go_enter Tryd.func27, Tryd.ntmps27
      go_wp2_with fail
      refine HR.out.mono ?_
      rintro e w1 ⟨rfl, rfl⟩
      go_wp2_with fail
      go_ret2
      exact ⟨⟨_, rfl, HN.out⟩, Chg.refl _ _⟩
end Go.Proofs.YtilacamhjibneaaDoor

/- Begun of the reference, walked. Its conditions are its premises. -/
namespace Go.Proofs.YtilacamhjibneaaDoor
open Go.RowKit

set_option maxRecDepth 100000 in
set_option maxHeartbeats 1000000 in
theorem begun_ok (V : List (List Nat)) (hV : WF V) (i : Nat) (hi : i < V.length) (many : Nat) (hm : many ≤ 100000) (hfed : Fed V i many) (b off cap : Nat) (w1 : World) (hv : VAt w1 b off V) :
    Calls Tryd.prog 49 #[.slice (some ⟨b, off, none⟩) V.length cap, .int .i64 (i : Int), .int .i64 (many : Int)] w1 fun e w' => (∃ g c K, e = .returned (.slice (some ⟨g, 0, none⟩) many c) ∧ many ≤ c ∧ many ≤ (bg V i K).length ∧ U8At w' g 0 ((bg V i K).take many)) ∧ Chg (fun _ => False) w1 w' := by
  have hn6 := hV.le
  have HI5 : Hid (∃ i0, Tryd.prog.info? 5 = some i0 ∧ i0.zero = some (.int .u8 0) ∧ i0.size = 1 ∧ i0.bytes = 1) := Lib.hid (by
    obtain ⟨i0, h0, h1, h2, h3⟩ := info_parts infoByte5
    exact ⟨i0, h0, h1, h2, h3⟩)
  have HV := Lib.hid hv; have HWF := Lib.hid hV; have HFED := Lib.hid hfed
  have HBL := Lib.hid (bg_lt hV i)
  have hii : (i : Int) < (V.length : Int) := by omega
  have v1 := hv i hi
  rw [← part_lt hi] at v1
  clear hv hV hfed
  have HP0 := Lib.hid (show bg V i 0 = part V i from rfl)
  obtain ⟨p, hp⟩ : ∃ p, part V i = p := ⟨_, rfl⟩
  rw [hp] at v1 HP0
  have HPL := Lib.hid (HBL.out 0)
  rw [HP0.out] at HPL
  clear hp
  obtain ⟨cc, w9, hcv, hq9, hc9⟩ := conv_que p (fun c hc => by have := HPL.out c hc; omega) w1
  obtain ⟨pb, hpb⟩ : ∃ pb, w1.heap.size = pb := ⟨_, rfl⟩
  rw [hpb] at hcv hq9
  have HQ9 := Lib.hid hq9; have HC9 := Lib.hid (hc9); have HPB := Lib.hid (show w1.heap.size ≤ pb by rw [← hpb]; exact Nat.le_refl _)
  clear hq9 hc9 hpb
  go_enter Tryd.func49, Tryd.ntmps49
  go_wp2_with fail
  clear hcv v1
  go_loopg [8, 7] many (fun gm kv ov wr => ∃ k g c : Nat, k ≤ many ∧ gm = many - k ∧ kv = .int .i64 ((k + 1 : Nat) : Int) ∧ ov = .slice (some ⟨g, 0, none⟩) (bg V i k).length c ∧ QueC wr g c (bg V i k).length (u8V (bg V i k)) ∧ w1.heap.size ≤ g ∧ Chg (fun _ => False) w1 wr ∧ (bg V i k).length ≤ many + 8)
  case atStart =>
    refine ⟨0, pb, cc, by omega, by omega, rfl, by rw [HP0.out], by rw [HP0.out]; exact HQ9.out, HPB.out, HC9.out, ?_⟩
    have := (HWF.out.part_le i).1
    show (part V i).length ≤ _
    omega
  case round =>
    clear HQ9 HC9
    obtain ⟨k, g, c, hk, rfl, rfl, rfl, hq, hg, hc, hl8⟩ := hrel
    have HQ := Lib.hid hq; have HG := Lib.hid hg; have HC := Lib.hid hc
    have HFK := Lib.hid (HFED.out k)
    have HNX := Lib.hid (show bg V i (k + 1) = bg V i k ++ part V (at0 (bg V i k) (k + 1)) from rfl)
    have HBK := Lib.hid (HBL.out k)
    clear hq hg hc
    obtain ⟨B, hB⟩ : ∃ B, bg V i k = B := ⟨_, rfl⟩
    have HBB := Lib.hid hB
    rw [hB] at HQ HFK HNX HBK hl8 ⊢
    clear hB
    obtain ⟨L, hL⟩ : ∃ L, B.length = L := ⟨_, rfl⟩
    have HLL := Lib.hid hL
    rw [hL] at HQ HFK hl8 ⊢
    by_cases hlt : L < many
    · have d0 : decide (L < many) = true := by simpa using hlt
      have hkL := HFK.out hlt
      have hkB : k + 1 < B.length := by omega
      have y1 := HQ.out.at_ _ _ (u8V_at hkB)
      have hcn := HBK.out _ (at0_mem hkB)
      have hu8 := u8_chr (at0 B (k + 1)) (by omega)
      obtain ⟨K, hK⟩ : ∃ K, k + 1 = K := ⟨_, rfl⟩
      have HKK := Lib.hid hK
      rw [hK] at hkL y1 hcn hu8 HNX ⊢
      have hKm : K ≤ 100000 := by omega
      obtain ⟨d, hd⟩ : ∃ d, at0 B K = d := ⟨_, rfl⟩
      rw [hd] at y1 hcn hu8 HNX
      obtain ⟨D, hD⟩ : ∃ D, 97 + d = D := ⟨_, rfl⟩
      rw [hD] at y1 hu8
      have v1 := (HV.out.chg HC.out (fun x => x)) d hcn
      rw [← part_lt hcn] at v1
      have hp8 := (HWF.out.part_le d).1
      have HPC := Lib.hid (HWF.out.part_le d).2
      obtain ⟨q, hq⟩ : ∃ q, part V d = q := ⟨_, rfl⟩
      rw [hq] at v1 hp8 HPC HNX
      clear hL hkB hK hd hD hq
      have hdi : (d : Int) < (V.length : Int) := by omega
      have hqs := str_size q
      go_wp2_with (at_builtin; refine wpList_append_str rfl (.tmp 20) (.tmp 29) 52 9 rfl 5 HI5.out.choose Tryd.underlying52 Tryd.underlying9 HI5.out.choose_spec.1 HI5.out.choose_spec.2.1 HI5.out.choose_spec.2.2.1 HI5.out.choose_spec.2.2.2 g c L _ (by simp [Act.eval]) HQ.out (str q) (by simp [Act.eval]) (by rw [hqs]; unfold maxLen; omega) (by rw [hqs]; omega) ?_)
      intro g' c' w6 hq6 hg6 hc6
      rw [strCells_str (fun c hc => by have := HPC.out c hc; omega), ← u8V_app, ← HNX.out] at hq6
      have HQ6 := Lib.hid hq6
      have HC6 := Lib.hid (HC.out.trans hc6 (fun k hk => .inr (by rw [hk]; exact HG.out)))
      have HG6 := Lib.hid (show w1.heap.size ≤ g' by
        rcases hg6 with h | h
        · rw [h]; exact HG.out
        · exact Nat.le_trans HC.out.size h)
      have HLN := Lib.hid (show (bg V i K).length = L + q.length by rw [HNX.out, List.length_append, HLL.out])
      clear hq6 hg6 hc6
      go_wp2_with fail
      go_roundg (many - K)
      case measure => have := HKK.out; omega
      case rel =>
        refine ⟨K, g', c', by omega, rfl, by go_num, by rw [HLN.out], by rw [HLN.out]; exact HQ6.out, HG6.out, HC6.out, by rw [HLN.out]; omega⟩
    · have d0 : decide (L < many) = false := by simpa using hlt
      have hLc := HQ.out.le
      have hLm : many ≤ L := by omega
      go_wp2_with fail
      go_ret
      refine ⟨⟨g, c, k, rfl, by omega, by rw [HBB.out, HLL.out]; exact hLm, fun j hj => ?_⟩, HC.out⟩
      rw [HBB.out] at hj
      simp only [HBB.out]
      rw [List.length_take] at hj
      have hjB : j < B.length := by omega
      have := HQ.out.at_ _ _ (u8V_at hjB)
      rw [Nat.zero_add, this, at0_lt_of hjB, List.getElem_take]
end Go.Proofs.YtilacamhjibneaaDoor

/- A bud is taken or refused, by both alike, at any input. Their conditions are their premises. -/
namespace Go.Proofs.YtilacamhjibneaaDoor
open Go.RowKit

/-- Both refuse with the same number. -/
def Refused (P : List ByteArray) (s : ByteArray) (E : Nat) : Prop := ∀ (v : Value) (many : Int) (w : World), SlS w v P →
  (Calls Tryd.prog 47 #[v, .string s, .int .i64 many] w fun e w' => e = .returned (.tuple #[.slice none 0 0, .int .i64 (E : Int)]) ∧ Chg (fun _ => False) w w') ∧
  (Calls Tryd.prog 48 #[v, .string s] w fun e w' => e = .returned (.int .i64 (E : Int)) ∧ Chg (fun _ => False) w w')

set_option maxRecDepth 100000 in
set_option maxHeartbeats 1000000 in
theorem bud_cases (P : List ByteArray) (s : ByteArray) (hn : P.length ≤ 1000) (hz : ∀ p ∈ P, p.size ≤ 1000) (hzs : s.size ≤ 1000) :
    (∃ V i, P = V.map str ∧ s = str [i] ∧ WF V ∧ i < V.length ∧ budV V i = true) ∨ ∃ E, E ≠ 0 ∧ Refused P s E := by
  by_cases he : errV P = 0
  · have hs0 : errS P ⟨#[]⟩ = 0 := by
      unfold errS
      rw [if_neg (by rw [he]; simp), if_pos (by unfold okShoot okS; rfl)]
    obtain ⟨V, _, rfl, _, hV, _, _⟩ := shot_of hs0
    have hn6 := hV.le
    have hpos := hV.pos
    by_cases h1 : s.size = 1
    · by_cases hok : okS (V.map str).length s = true
      · have hs : errS (V.map str) s = 0 := by
          unfold errS
          rw [if_neg (by rw [he]; simp), if_pos (by unfold okShoot; rw [hok]; simp; omega)]
        obtain ⟨V', t, hVV, rfl, hV', hl, ht⟩ := shot_of hs
        have hVe : V' = V := by
          have h2 : ∀ (l m : List (List Nat)), (∀ x ∈ l, ∀ c ∈ x, c < 100) → (∀ x ∈ m, ∀ c ∈ x, c < 100) → l.map str = m.map str → l = m := by
            intro l
            induction l with
            | nil => intro m _ _ h; cases m with
              | nil => rfl
              | cons _ _ => simp at h
            | cons x l ih =>
              intro m h1 h2 h
              cases m with
              | nil => simp at h
              | cons y m =>
                rw [List.map_cons, List.map_cons] at h
                injection h with ha hb
                rw [kl_inj (h1 x (by simp)) (h2 y (by simp)) (by unfold kl; rw [ha]), ih m (fun z hz => h1 z (by simp [hz])) (fun z hz => h2 z (by simp [hz])) hb]
          have h6' := hV'.le
          refine (h2 V V' (fun x hx c hc => ?_) (fun x hx c hc => ?_) hVV).symm
          · have := (hV.small x hx).2 c hc; omega
          · have := (hV'.small x hx).2 c hc; omega
        subst hVe
        rw [str_size] at h1
        obtain ⟨i, rfl⟩ : ∃ i, t = [i] := by
          cases t with
          | nil => simp at h1
          | cons a r => cases r with
            | nil => exact ⟨a, rfl⟩
            | cons _ _ => simp at h1
        have hi : i < V'.length := ht i (by simp)
        by_cases hb : budV V' i = true
        · exact .inl ⟨V', i, rfl, rfl, hV', hi, hb⟩
        · refine .inr ⟨10, by omega, fun v many w hv => ?_⟩
          obtain ⟨ao, b, off, cap, rfl, hst, ha⟩ := hv.form
          obtain rfl := ha.resolve_left (fun e => by have h0 := congrArg List.length e; rw [List.length_map, List.length_nil] at h0; omega)
          have hva := vat_of hst
          rw [List.length_map]
          have HO := Lib.hid (of_ok V' hV' b off cap w hva)
          have HO2 := Lib.hid (rvine_ok V' hV' b off cap w hva)
          have HSH := Lib.hid (shoots_any (some ⟨b, off, none⟩) V'.length cap (str [i]) w (by omega) (by rw [str_size]; simp))
          have HLT := Lib.hid (rletters_any (some ⟨b, off, none⟩) V'.length cap (str [i]) w (by omega) (by rw [str_size]; simp))
          rw [okS_str (by omega) (t := [i]) ht] at HSH HLT
          have HBD := Lib.hid (bud_any V' hV' i hi b off cap w hva)
          have HBR := Lib.hid (rbud_any V' hV' i hi b off cap w hva)
          rw [show budV V' i = false by simpa using hb] at HBD HBR
          have h0s : ∀ bs, str [i] = bs → ∀ h : 0 < bs.size, (bs[0]'h).toNat = 97 + i := by
            rintro _ rfl h
            exact str_zero (p := [i]) (by simp) (by simp; omega) h
          have hs1 : (str [i]).size = 1 := str_size [i]
          obtain ⟨bs, hbs⟩ : ∃ bs, str [i] = bs := ⟨_, rfl⟩
          rw [hbs] at HSH HLT hs1 ⊢
          have h00 := h0s bs hbs
          clear h0s
          have hmod : (((97 + i : Nat) : Int) - 97) % 256 = (i : Int) := by omega
          obtain ⟨C, hC⟩ : ∃ C, 97 + i = C := ⟨_, rfl⟩
          rw [hC] at hmod
          simp only [hC] at h00
          have hii : (i : Int) < (V'.length : Int) := by omega
          clear hv hst hbs hC hb he hs hs0 hok ht hz hV hV' hVV hzs hva
          constructor
          · go_enter Tryd.func47, Tryd.ntmps47
            go_wp2_with fail
            refine HO.out.mono ?_
            rintro e w1 ⟨rfl, rfl⟩
            go_wp2_with fail
            refine HSH.out.mono ?_
            rintro e w1 ⟨rfl, rfl⟩
            go_wp2_with fail
            refine HBD.out.mono ?_
            rintro e w2 ⟨rfl, hc2⟩
            have HC2 := Lib.hid hc2
            clear hc2
            go_wp2_with fail
            go_ret2
            exact ⟨rfl, HC2.out⟩
          · go_enter Tryd.func48, Tryd.ntmps48
            go_wp2_with fail
            refine HO2.out.mono ?_
            rintro e w1 ⟨rfl, rfl⟩
            go_wp2_with fail
            refine HLT.out.mono ?_
            rintro e w1 ⟨rfl, rfl⟩
            go_wp2_with fail
            refine HBR.out.mono ?_
            rintro e w2 ⟨rfl, hc2⟩
            have HC2 := Lib.hid hc2
            clear hc2
            go_wp2_with fail
            go_ret
            exact ⟨rfl, HC2.out⟩
      · refine .inr ⟨5, by omega, fun v many w hv => ?_⟩
        obtain ⟨ao, b, off, cap, rfl, hst, ha⟩ := hv.form
        obtain rfl := ha.resolve_left (fun e => by have h0 := congrArg List.length e; rw [List.length_map, List.length_nil] at h0; omega)
        have hva := vat_of hst
        rw [List.length_map] at hok ⊢
        have HO := Lib.hid (of_ok V hV b off cap w hva)
        have HO2 := Lib.hid (rvine_ok V hV b off cap w hva)
        have HSH := Lib.hid (shoots_any (some ⟨b, off, none⟩) V.length cap s w (by omega) (by omega))
        have HLT := Lib.hid (rletters_any (some ⟨b, off, none⟩) V.length cap s w (by omega) (by omega))
        rw [show okS V.length s = false by simpa using hok] at HSH HLT
        clear hv hst he hs0 hok hz hV hzs hva
        constructor
        · go_enter Tryd.func47, Tryd.ntmps47
          go_wp2_with fail
          refine HO.out.mono ?_
          rintro e w1 ⟨rfl, rfl⟩
          go_wp2_with fail
          refine HSH.out.mono ?_
          rintro e w1 ⟨rfl, rfl⟩
          go_wp2_with fail
          go_ret2
          exact ⟨rfl, Chg.refl _ _⟩
        · go_enter Tryd.func48, Tryd.ntmps48
          go_wp2_with fail
          refine HO2.out.mono ?_
          rintro e w1 ⟨rfl, rfl⟩
          go_wp2_with fail
          refine HLT.out.mono ?_
          rintro e w1 ⟨rfl, rfl⟩
          go_wp2_with fail
          go_ret
          exact ⟨rfl, Chg.refl _ _⟩
    · refine .inr ⟨5, by omega, fun v many w hv => ?_⟩
      obtain ⟨ao, b, off, cap, rfl, hst, ha⟩ := hv.form
      obtain rfl := ha.resolve_left (fun e => by have h0 := congrArg List.length e; rw [List.length_map, List.length_nil] at h0; omega)
      have hva := vat_of hst
      rw [List.length_map]
      have HO := Lib.hid (of_ok V hV b off cap w hva)
      have HO2 := Lib.hid (rvine_ok V hV b off cap w hva)
      have dn : ((s.size : Int) != 1) = true := by simp; omega
      have dn2 : ¬ (s.size : Int) = 1 := by omega
      clear hv hst he hs0 hz hV hzs hva
      constructor
      · go_enter Tryd.func47, Tryd.ntmps47
        go_wp2_with fail
        refine HO.out.mono ?_
        rintro e w1 ⟨rfl, rfl⟩
        go_wp2_with fail
        go_ret2
        exact ⟨rfl, Chg.refl _ _⟩
      · go_enter Tryd.func48, Tryd.ntmps48
        go_wp2_with fail
        refine HO2.out.mono ?_
        rintro e w1 ⟨rfl, rfl⟩
        go_wp2_with fail
        go_ret
        exact ⟨rfl, Chg.refl _ _⟩
  · refine .inr ⟨errV P, he, fun v many w hv => ?_⟩
    obtain ⟨ao, b, off, cap, rfl, hst, ha⟩ := hv.form
    have HS := Lib.hid (of_any P ao cap b off w hst ha hn hz)
    rw [show ofV ao cap P = .tuple #[.slice none 0 0, .int .i64 (errV P : Nat)] by unfold ofV; rw [if_neg he]] at HS
    have HR := Lib.hid (rvine_any P ao cap b off w hst ha hn hz)
    obtain ⟨E, hE⟩ : ∃ E, errV P = E := ⟨_, rfl⟩
    rw [hE] at HS HR ⊢
    have dn : (((E : Nat) : Int) != 0) = true := by simpa [hE] using he
    clear hE he hst ha hv
    constructor
    · go_enter Tryd.func47, Tryd.ntmps47
      go_wp2_with fail
      refine HS.out.mono ?_
      rintro e w1 ⟨rfl, rfl⟩
      go_wp2_with fail
      go_ret2
      exact ⟨rfl, Chg.refl _ _⟩
    · go_enter Tryd.func48, Tryd.ntmps48
      go_wp2_with fail
      refine HR.out.mono ?_
      rintro e w1 ⟨rfl, rfl⟩
      go_wp2_with fail
      go_ret
      exact ⟨rfl, Chg.refl _ _⟩
end Go.Proofs.YtilacamhjibneaaDoor

/- Letter, both, at any input. Their conditions are their premises. -/
namespace Go.Proofs.YtilacamhjibneaaDoor
open Go.RowKit

/-- Letter number m of the endless shoot. -/
def ewF (V : List (List Nat)) (i m : Nat) : Nat := at0 (bg V i m) m
theorem at0_app {l m : List Nat} {j : Nat} (h : j < l.length) : at0 (l ++ m) j = at0 l j := by
  unfold at0
  rw [List.getElem?_append_left h]
theorem ew_any {V : List (List Nat)} (hV : WF V) {i : Nat} (hi : i < V.length) (hb : budV V i = true) {K m : Nat} (h : m < (bg V i K).length) : at0 (bg V i K) m = ewF V i m := by
  have hm := fed_bud hV hi hb m
  unfold ewF
  by_cases hKm : K ≤ m
  · obtain ⟨r, hr⟩ := bg_prefix V i K (m - K)
    rw [show K + (m - K) = m by omega] at hr
    rw [hr, at0_app h]
  · obtain ⟨r, hr⟩ := bg_prefix V i m (K - m)
    rw [show m + (K - m) = K by omega] at hr
    rw [hr, at0_app (by omega)]
theorem take_one {l : List Nat} {many p : Nat} (hp : p < many) (hl : many ≤ l.length) : ((l.take many).drop p).take 1 = [at0 l p] := by
  rw [List.drop_take, List.take_take, Nat.min_eq_left (by omega)]
  have h := List.drop_eq_getElem_cons (show p < l.length by omega)
  rw [h, at0_lt_of (by omega)]
  rfl
/-- What both Letters return. -/
def letV (V : List (List Nat)) (i : Nat) (place : Int) : Value := if place < 0 ∨ 100000 ≤ place then .tuple #[.string ⟨#[]⟩, .int .i64 4] else .tuple #[.string (str [ewF V i place.toNat]), .int .i64 0]

set_option maxRecDepth 100000 in
set_option maxHeartbeats 1000000 in
theorem rbudE_ok (V : List (List Nat)) (hV : WF V) (i : Nat) (hi : i < V.length) (hb : budV V i = true) (b off cap : Nat) (w : World) (hva : VAt w b off V) :
    Calls Tryd.prog 48 #[.slice (some ⟨b, off, none⟩) V.length cap, .string (str [i])] w fun e w' => e = .returned (.int .i64 0) ∧ Chg (fun _ => False) w w' := by
  have hn6 := hV.le
  have HO2 := Lib.hid (rvine_ok V hV b off cap w hva)
  have HLT := Lib.hid (rletters_any (some ⟨b, off, none⟩) V.length cap (str [i]) w (by omega) (by rw [str_size]; simp))
  rw [okS_str (by omega) (t := [i]) (by intro c hc; simp at hc; subst hc; exact hi)] at HLT
  have HBR := Lib.hid (rbud_any V hV i hi b off cap w hva)
  rw [hb] at HBR
  have h0s : ∀ bs, str [i] = bs → ∀ h : 0 < bs.size, (bs[0]'h).toNat = 97 + i := by
    rintro _ rfl h
    exact str_zero (p := [i]) (by simp) (by simp; omega) h
  have hs1 : (str [i]).size = 1 := str_size [i]
  obtain ⟨bs, hbs⟩ : ∃ bs, str [i] = bs := ⟨_, rfl⟩
  rw [hbs] at HLT hs1 ⊢
  have h00 := h0s bs hbs
  clear h0s
  have hmod : (((97 + i : Nat) : Int) - 97) % 256 = (i : Int) := by omega
  obtain ⟨C, hC⟩ : ∃ C, 97 + i = C := ⟨_, rfl⟩
  rw [hC] at hmod
  simp only [hC] at h00
  have hii : (i : Int) < (V.length : Int) := by omega
  clear hbs hC hb hV hva
  go_enter Tryd.func48, Tryd.ntmps48
  go_wp2_with fail
  refine HO2.out.mono ?_
  rintro e w1 ⟨rfl, rfl⟩
  go_wp2_with fail
  refine HLT.out.mono ?_
  rintro e w1 ⟨rfl, rfl⟩
  go_wp2_with fail
  refine HBR.out.mono ?_
  rintro e w2 ⟨rfl, hc2⟩
  have HC2 := Lib.hid hc2
  clear hc2
  go_wp2_with fail
  go_ret
  exact ⟨rfl, HC2.out⟩

set_option maxRecDepth 100000 in
set_option maxHeartbeats 1000000 in
theorem letter_ok (V : List (List Nat)) (hV : WF V) (i : Nat) (hi : i < V.length) (hb : budV V i = true) (place : Int) (hpi : I64 place) (b off cap : Nat) (w : World) (hv : VAt w b off V) :
    Calls Tryd.prog 28 #[.slice (some ⟨b, off, none⟩) V.length cap, .string (str [i]), .int .i64 place] w fun e w' => e = .returned (letV V i place) ∧ Chg (fun _ => False) w w' := by
  have hn6 := hV.le
  have HFI := Lib.hid (fun many hm => first_ok V hV i hi hb many hm (fed_any hV hi hb many) b off cap w hv)
  have HEW := Lib.hid (fun K m h => ew_any hV hi hb (K := K) (m := m) h)
  have HBL := Lib.hid (bg_lt hV i)
  clear hV hv hb
  unfold I64 at hpi
  obtain ⟨R, hR⟩ : ∃ R, letV V i place = R := ⟨_, rfl⟩
  have HR := Lib.hid hR
  rw [hR]
  clear hR
  obtain ⟨M, hM⟩ : ∃ M : Nat, min (max place 0) 99999 + 1 = (M : Int) := ⟨(min (max place 0) 99999 + 1).toNat, by omega⟩
  have hM2 : M ≤ 100000 := by omega
  have HM := Lib.hid hM
  have HF1 := Lib.hid (HFI.out M hM2)
  clear hM
  by_cases h0 : place < 0
  · have HR2 : Hid (R = .tuple #[.string ⟨#[]⟩, .int .i64 4]) := Lib.hid (HR.out.symm.trans (if_pos (.inl h0)))
    have d0 : decide (place < 0) = true := by simpa using h0
    go_enter Tryd.func28, Tryd.ntmps28
    go_wp2_with fail
    rw [HM.out]
    refine HF1.out.mono ?_
    rintro e w2 ⟨⟨g, c, K, rfl, hc, hK, hu⟩, hc2⟩
    have HC2 := Lib.hid hc2
    clear hc2 hu hc hK
    go_wp2_with fail
    go_ret2
    exact ⟨by rw [HR2.out]; rfl, HC2.out⟩
  · have d0 : decide (place < 0) = false := by simpa using h0
    by_cases h1 : 100000 ≤ place
    · have HR2 : Hid (R = .tuple #[.string ⟨#[]⟩, .int .i64 4]) := Lib.hid (HR.out.symm.trans (if_pos (.inr h1)))
      have d1 : decide (100000 ≤ place) = true := by simpa using h1
      go_enter Tryd.func28, Tryd.ntmps28
      go_wp2_with fail
      rw [HM.out]
      refine HF1.out.mono ?_
      rintro e w2 ⟨⟨g, c, K, rfl, hc, hK, hu⟩, hc2⟩
      have HC2 := Lib.hid hc2
      clear hc2 hu hc hK
      go_wp2_with fail
      go_ret2
      exact ⟨by rw [HR2.out]; rfl, HC2.out⟩
    · have d1 : decide (100000 ≤ place) = false := by simpa using h1
      obtain ⟨p, rfl⟩ : ∃ p : Nat, place = (p : Int) := ⟨place.toNat, by omega⟩
      have HR2 : Hid (R = .tuple #[.string (str [ewF V i p]), .int .i64 0]) := Lib.hid (HR.out.symm.trans (if_neg (by omega)))
      have hMp : M = p + 1 := by have := HM.out; omega
      have hpM : p < M := by omega
      have HWP := Lib.hid (show IntKind.i64.wrap ((p : Int) + 1) = ((p + 1 : Nat) : Int) from IntWalk.i64_in _ (by omega))
      have hwp : wrap64 ((p : Int) + 1) = (p : Int) + 1 := wrap_id (by omega)
      clear h0 h1 hpi
      go_enter Tryd.func28, Tryd.ntmps28
      go_wp2_with fail
      rw [show min (p : Int) 99999 + 1 = (M : Int) by have := HM.out; omega]
      refine HF1.out.mono ?_
      rintro e w2 ⟨⟨g, c, K, rfl, hc, hK, hu⟩, hc2⟩
      have HC2 := Lib.hid hc2
      have hcv := fun cap' => back_str (w := w2) (g := g) (i := p) (len := 1) (cap := cap') hu (by rw [List.length_take]; omega) (fun x hx => by have := HBL.out K x (List.mem_of_mem_take hx); omega)
      rw [take_one hpM hK, HEW.out K p (by omega)] at hcv
      have hpc : p + 1 ≤ c := by omega
      clear hc2 hu
      subst hMp
      go_wp2_with fail
      go_ret2
      exact ⟨by rw [HR2.out]; rfl, HC2.out⟩
end Go.Proofs.YtilacamhjibneaaDoor

/- Letter of the reference, walked. Its conditions are its premises. -/
namespace Go.Proofs.YtilacamhjibneaaDoor
open Go.RowKit

set_option maxRecDepth 100000 in
set_option maxHeartbeats 1000000 in
theorem rletter_ok (V : List (List Nat)) (hV : WF V) (i : Nat) (hi : i < V.length) (hb : budV V i = true) (place : Int) (hpi : I64 place) (b off cap : Nat) (w : World) (hv : VAt w b off V) :
    Calls Tryd.prog 29 #[.slice (some ⟨b, off, none⟩) V.length cap, .string (str [i]), .int .i64 place] w fun e w' => e = .returned (letV V i place) ∧ Chg (fun _ => False) w w' := by
  have hn6 := hV.le
  have HBG := Lib.hid (fun many hm w hv => begun_ok V hV i hi many hm (fed_any hV hi hb many) b off cap w hv)
  have HBE := Lib.hid (rbudE_ok V hV i hi hb b off cap w hv)
  have HEW := Lib.hid (fun K m h => ew_any hV hi hb (K := K) (m := m) h)
  have HBL := Lib.hid (bg_lt hV i)
  have HV := Lib.hid hv
  clear hV hv hb
  unfold I64 at hpi
  obtain ⟨R, hR⟩ : ∃ R, letV V i place = R := ⟨_, rfl⟩
  have HR := Lib.hid hR
  rw [hR]
  clear hR
  have h0s : ∀ bs, str [i] = bs → ∀ h : 0 < bs.size, (bs[0]'h).toNat = 97 + i := by
    rintro _ rfl h
    exact str_zero (p := [i]) (by simp) (by simp; omega) h
  have hs1 : (str [i]).size = 1 := str_size [i]
  obtain ⟨bs, hbs⟩ : ∃ bs, str [i] = bs := ⟨_, rfl⟩
  rw [hbs] at hs1 HBE ⊢
  have h00 := h0s bs hbs
  clear h0s
  have hmod : (((97 + i : Nat) : Int) - 97) % 256 = (i : Int) := by omega
  obtain ⟨C, hC⟩ : ∃ C, 97 + i = C := ⟨_, rfl⟩
  rw [hC] at hmod
  simp only [hC] at h00
  have hii : (i : Int) < (V.length : Int) := by omega
  clear hbs hC
  by_cases h0 : place < 0
  · have HR2 : Hid (R = .tuple #[.string ⟨#[]⟩, .int .i64 4]) := Lib.hid (HR.out.symm.trans (if_pos (.inl h0)))
    have d0 : decide (place < 0) = true := by simpa using h0
    go_enter Tryd.func29, Tryd.ntmps29
    go_wp2_with fail
    refine HBE.out.mono ?_
    rintro e w2 ⟨rfl, hc2⟩
    have HC2 := Lib.hid hc2
    clear hc2
    go_wp2_with fail
    go_ret2
    exact ⟨by rw [HR2.out]; rfl, HC2.out⟩
  · have d0 : decide (place < 0) = false := by simpa using h0
    by_cases h1 : 100000 ≤ place
    · have HR2 : Hid (R = .tuple #[.string ⟨#[]⟩, .int .i64 4]) := Lib.hid (HR.out.symm.trans (if_pos (.inr h1)))
      have d1 : decide (100000 ≤ place) = true := by simpa using h1
      go_enter Tryd.func29, Tryd.ntmps29
      go_wp2_with fail
      refine HBE.out.mono ?_
      rintro e w2 ⟨rfl, hc2⟩
      have HC2 := Lib.hid hc2
      clear hc2
      go_wp2_with fail
      go_ret2
      exact ⟨by rw [HR2.out]; rfl, HC2.out⟩
    · have d1 : decide (100000 ≤ place) = false := by simpa using h1
      obtain ⟨p, rfl⟩ : ∃ p : Nat, place = (p : Int) := ⟨place.toNat, by omega⟩
      have HR2 : Hid (R = .tuple #[.string (str [ewF V i p]), .int .i64 0]) := Lib.hid (HR.out.symm.trans (if_neg (by omega)))
      have hwp : wrap64 ((p : Int) + 1) = (p : Int) + 1 := wrap_id (by omega)
      have hp5 : p < 100000 := by omega
      clear h0 h1 hpi
      go_enter Tryd.func29, Tryd.ntmps29
      go_wp2_with fail
      refine HBE.out.mono ?_
      rintro e w2 ⟨rfl, hc2⟩
      have HC2 := Lib.hid hc2
      have HB2 := Lib.hid (HBG.out (p + 1) (by omega) w2 (HV.out.chg hc2 (fun x => x)))
      clear hc2
      go_wp2_with fail
      refine HB2.out.mono ?_
      rintro e w3 ⟨⟨g, c, K, rfl, hc, hK, hu⟩, hc3⟩
      have HC3 := Lib.hid (HC2.out.trans hc3 (fun _ x => x.elim))
      have hcv := fun cap' => back_str (w := w3) (g := g) (i := p) (len := 1) (cap := cap') hu (by rw [List.length_take]; omega) (fun x hx => by have := HBL.out K x (List.mem_of_mem_take hx); omega)
      rw [take_one (show p < p + 1 by omega) hK, HEW.out K p (by omega)] at hcv
      have hpc : ¬ p = c := by omega
      have hpc2 : p ≤ c := by omega
      clear hc3 hu
      go_wp2_with fail
      go_ret2
      exact ⟨by rw [HR2.out]; rfl, HC3.out⟩

theorem letV_two (V : List (List Nat)) (i : Nat) (place : Int) : ∃ (s : ByteArray) (e : Int), letV V i place = .tuple #[.string s, .int .i64 e] := by
  unfold letV
  split <;> exact ⟨_, _, rfl⟩

set_option maxRecDepth 100000 in
set_option maxHeartbeats 1000000 in
theorem letter_both (P : List ByteArray) (s : ByteArray) (place : Int) (hpi : I64 place) (hn : P.length ≤ 1000) (hz : ∀ p ∈ P, p.size ≤ 1000) (hzs : s.size ≤ 1000) :
    ∃ (x : ByteArray) (e : Int), ∀ (v : Value) (w : World), SlS w v P →
      (Calls Tryd.prog 28 #[v, .string s, .int .i64 place] w fun r w' => r = .returned (.tuple #[.string x, .int .i64 e]) ∧ Chg (fun _ => False) w w') ∧
      (Calls Tryd.prog 29 #[v, .string s, .int .i64 place] w fun r w' => r = .returned (.tuple #[.string x, .int .i64 e]) ∧ Chg (fun _ => False) w w') := by
  rcases bud_cases P s hn hz hzs with ⟨V, i, rfl, rfl, hV, hi, hb⟩ | ⟨E, hE, hr⟩
  · obtain ⟨x, e, hL⟩ := letV_two V i place
    refine ⟨x, e, fun v w hv => ?_⟩
    obtain ⟨ao, b, off, cap, rfl, hst, ha⟩ := hv.form
    have hpos := hV.pos
    obtain rfl := ha.resolve_left (fun e => by have h0 := congrArg List.length e; rw [List.length_map, List.length_nil] at h0; omega)
    have hva := vat_of hst
    rw [List.length_map]
    have h1 := letter_ok V hV i hi hb place hpi b off cap w hva
    have h2 := rletter_ok V hV i hi hb place hpi b off cap w hva
    rw [hL] at h1 h2
    exact ⟨h1, h2⟩
  · refine ⟨⟨#[]⟩, (E : Int), fun v w hv => ?_⟩
    have HR := Lib.hid (fun many => hr v many w hv)
    have dn : (((E : Nat) : Int) != 0) = true := by simpa using hE
    unfold I64 at hpi
    clear hr hv hz hE
    constructor
    · go_enter Tryd.func28, Tryd.ntmps28
      go_wp2_with fail
      refine ((HR.out _).1).mono ?_
      rintro e w1 ⟨rfl, hc⟩
      have HC := Lib.hid hc
      clear hc
      go_wp2_with fail
      go_ret2
      exact ⟨rfl, HC.out⟩
    · go_enter Tryd.func29, Tryd.ntmps29
      go_wp2_with fail
      refine ((HR.out 0).2).mono ?_
      rintro e w1 ⟨rfl, hc⟩
      have HC := Lib.hid hc
      clear hc
      go_wp2_with fail
      go_ret2
      exact ⟨rfl, HC.out⟩
end Go.Proofs.YtilacamhjibneaaDoor

/- The law VineEndless, walked. No condition but the arguments' cells. -/
namespace Go.Proofs.YtilacamhjibneaaDoor
open Go.RowKit

set_option maxRecDepth 100000 in
set_option maxHeartbeats 1000000 in
theorem vineEndless_law (P : List ByteArray) (s : ByteArray) (place : Int) (hpi : I64 place) (v : Value) (w : World) (hv : SlS w v P) (hs : s.size ≤ maxLen) :
    Calls Tryd.prog 6 #[v, .string s, .int .i64 place] w fun e w' => e = .returned (.bool true) ∧ Chg (fun _ => False) w w' := by
  have HF := Lib.hid (few_any P s v w hv hs)
  by_cases hfew : fewV P s = true
  · obtain ⟨hn, hz, hzs⟩ := few_small hfew
    rw [hfew] at HF
    obtain ⟨X, e0, hX, hb⟩ := endless_both P hn hz
    obtain ⟨y, e1, hl⟩ := letter_both P s place hpi hn hz hzs
    have HB := Lib.hid hb; have HL := Lib.hid hl
    have HV := Lib.hid hv
    clear hb hl hfew hn hz hzs hv
    go_enter Tryd.func6, Tryd.ntmps6
    go_wp2_with fail
    refine HF.out.mono ?_
    rintro e w1 ⟨rfl, rfl⟩
    go_wp2_with fail
    refine ((HB.out v w1 HV.out).1).mono ?_
    rintro r w2 ⟨⟨va, rfl, hsa⟩, hc2⟩
    have HSA := Lib.hid hsa; have HC2 := Lib.hid hc2
    clear hsa hc2
    go_wp2_with fail
    refine ((HB.out v w2 (HV.out.chg HC2.out)).2).mono ?_
    rintro r w3 ⟨⟨vb, rfl, hsb⟩, hc3⟩
    have HSB := Lib.hid hsb; have HC3 := Lib.hid (HC2.out.trans hc3 (fun _ x => x.elim)); have HSA3 := Lib.hid (sli_chg HSA.out hc3)
    clear hsb hc3
    have HSM := Lib.hid (same_any X X va vb w3 HSA3.out HSB.out (by omega) (by omega))
    rw [show decide (X = X) = true by simp] at HSM
    go_wp2_with fail
    refine HSM.out.mono ?_
    rintro r w5 ⟨rfl, q, rfl⟩
    have HC5 := Lib.hid (HC3.out.drewN q)
    go_wp2_with fail
    refine ((HL.out v _ (HV.out.chg HC5.out)).1).mono ?_
    rintro r w6 ⟨rfl, hc6⟩
    have HC6 := Lib.hid (HC5.out.trans hc6 (fun _ x => x.elim))
    clear hc6
    go_wp2_with fail
    refine ((HL.out v w6 (HV.out.chg HC6.out)).2).mono ?_
    rintro r w7 ⟨rfl, hc7⟩
    have HC7 := Lib.hid (HC6.out.trans hc7 (fun _ x => x.elim))
    clear hc7
    go_wp2_with fail
    refine (alive_any _).mono ?_
    rintro e w8 ⟨rfl, hc8⟩
    have HC8 := Lib.hid (HC7.out.trans hc8 (fun _ x => x.elim))
    clear hc8
    go_wp2_with fail
    go_ret
    exact ⟨rfl, HC8.out⟩
  · have hff : fewV P s = false := by simpa using hfew
    rw [hff] at HF
    clear hfew hff hv
    go_enter Tryd.func6, Tryd.ntmps6
    go_wp2_with fail
    refine HF.out.mono ?_
    rintro e w1 ⟨rfl, rfl⟩
    go_wp2_with fail
    refine (alive_any w1).mono ?_
    rintro e w2 ⟨rfl, hc2⟩
    have HC2 := Lib.hid hc2
    clear hc2
    go_wp2_with fail
    go_ret
    exact ⟨rfl, HC2.out⟩
end Go.Proofs.YtilacamhjibneaaDoor
