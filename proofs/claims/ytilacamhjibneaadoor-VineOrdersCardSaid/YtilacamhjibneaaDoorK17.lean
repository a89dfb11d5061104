/- Texts on the vines, laid together (V100, V101, V102). Their conditions are their premises. -/
import Derived.Test.YtilacamhjibneaaDoorK10
set_option linter.unusedVariables false
/- The lengths' differences 60 years apart: sums, rings, chains. Plain facts. Their conditions are their premises. -/
namespace Go.Proofs.YtilacamhjibneaaDoor
open Go.RowKit

/-- A sum over a list. -/
def sI {α : Type} : List α → (α → Int) → Int
  | [], _ => 0
  | a :: t, g => g a + sI t g
theorem sI_app {α : Type} (g : α → Int) : ∀ l m : List α, sI (l ++ m) g = sI l g + sI m g
  | [], m => by simp [sI]
  | a :: l, m => by simp [sI, sI_app g l m]; omega
theorem sI_map {α β : Type} (f : α → β) (g : β → Int) : ∀ l : List α, sI (l.map f) g = sI l (fun a => g (f a))
  | [] => rfl
  | a :: l => by simp [sI, sI_map f g l]
theorem sI_sub {α : Type} (g h : α → Int) : ∀ l : List α, sI l (fun a => g a - h a) = sI l g - sI l h
  | [] => rfl
  | a :: l => by simp [sI, sI_sub g h l]; omega
theorem sI_zero {α : Type} {g : α → Int} : ∀ {l : List α}, (∀ a ∈ l, g a = 0) → sI l g = 0
  | [], _ => rfl
  | a :: l, h => by
    have := sI_zero (g := g) (l := l) (fun b hb => h b (by simp [hb]))
    have := h a (by simp)
    simp [sI]
    omega
theorem sI_nonneg {α : Type} {g : α → Int} : ∀ {l : List α}, (∀ a ∈ l, 0 ≤ g a) → 0 ≤ sI l g
  | [], _ => Int.le_refl _
  | a :: l, h => by
    have := sI_nonneg (g := g) (l := l) (fun b hb => h b (by simp [hb]))
    have := h a (by simp)
    simp [sI]
    omega
theorem sI_pos {α : Type} {g : α → Int} : ∀ {l : List α}, (∀ a ∈ l, 0 ≤ g a) → ∀ {b : α}, b ∈ l → 1 ≤ g b → 1 ≤ sI l g
  | a :: l, h, b, hb, h1 => by
    have h2 := sI_nonneg (g := g) (l := l) (fun b hb => h b (by simp [hb]))
    have h3 := h a (by simp)
    show 1 ≤ g a + sI l g
    rcases List.mem_cons.1 hb with rfl | hb
    · omega
    · have := sI_pos (g := g) (l := l) (fun b hb => h b (by simp [hb])) hb h1
      omega
/-- Differences, 60 years apart. -/
def dif (f : Nat → Int) : Nat → Int := fun y => f (y + 60) - f y
def difn : Nat → (Nat → Int) → Nat → Int
  | 0, f => f
  | m + 1, f => difn m (dif f)
theorem difn_sum {α : Type} (l : List α) : ∀ (m : Nat) (F : α → Nat → Int) (y : Nat), difn m (fun y => sI l (fun a => F a y)) y = sI l (fun a => difn m (F a) y)
  | 0, F, y => rfl
  | m + 1, F, y => by
    have : dif (fun y => sI l (fun a => F a y)) = fun y => sI l (fun a => dif (F a) y) := by
      funext z
      exact (sI_sub (fun a => F a (z + 60)) (fun a => F a z) l).symm
    show difn m (dif (fun y => sI l (fun a => F a y))) y = _
    rw [this, difn_sum l m]
    rfl
theorem difn_shift (s : Nat) : ∀ (m : Nat) (f : Nat → Int) (y : Nat), difn m (fun y => f (y + s)) y = difn m f (y + s)
  | 0, f, y => rfl
  | m + 1, f, y => by
    have : dif (fun y => f (y + s)) = fun y => dif f (y + s) := by
      funext z
      show f (z + 60 + s) - f (z + s) = f (z + s + 60) - f (z + s)
      rw [show z + 60 + s = z + s + 60 by omega]
    show difn m (dif (fun y => f (y + s))) y = _
    rw [this, difn_shift s m]
    rfl
theorem difn_succ : ∀ (m : Nat) (f : Nat → Int) (y : Nat), difn (m + 1) f y = difn m f (y + 60) - difn m f y
  | 0, f, y => rfl
  | m + 1, f, y => difn_succ m (dif f) y
theorem difn_up {m h : Nat} {f : Nat → Int} (h0 : ∀ y, h ≤ y → difn m f y = 0) : ∀ k y, h ≤ y → difn (m + k) f y = 0
  | 0, y, hy => h0 y hy
  | k + 1, y, hy => by
    rw [← Nat.add_assoc, difn_succ, difn_up h0 k _ (by omega), difn_up h0 k _ hy]
    rfl

/-- How long a part's shoot is. -/
def Lc (V : List (List Nat)) (c y : Nat) : Int := ((gen V y [c]).length : Int)
theorem Lc_str (V : List (List Nat)) (y : Nat) : ∀ s : List Nat, ((gen V y s).length : Int) = sI s (fun c => Lc V c y)
  | [] => by rw [gen_nil]; rfl
  | c :: s => by
    have h := gen_app V y [c] s
    rw [List.singleton_append] at h
    have ih := Lc_str V y s
    rw [h, List.length_append]
    show _ = Lc V c y + sI s (fun c => Lc V c y)
    unfold Lc at *
    omega
theorem Lc_succ (V : List (List Nat)) (c y : Nat) : Lc V c (y + 1) = sI (part V c) (fun e => Lc V e y) := by
  rw [← Lc_str]
  unfold Lc
  rw [gen_one]

theorem path_head {V : List (List Nat)} {c d : Nat} (h : Path V c d) : c = d ∨ ∃ e ∈ part V c, Path V e d := by
  induction h with
  | refl => exact .inl rfl
  | @step j k h1 hk ih =>
    rcases ih with rfl | ⟨e, he, hp⟩
    · exact .inr ⟨k, hk, .refl⟩
    · exact .inr ⟨e, he, hp.step hk⟩
theorem path_one {V : List (List Nat)} {c e : Nat} (h : e ∈ part V c) : Path V c e := Path.refl.step h
theorem path_lt {V : List (List Nat)} (hV : WF V) {c d : Nat} (hc : c < V.length) (h : Path V c d) : d < V.length := by
  induction h with
  | refl => exact hc
  | @step j k h1 hk ih => exact (hV.part_le j).2 k hk
theorem bkF_filter (V : List (List Nat)) (i : Nat) (p : List Nat) : ∀ k, k ≤ p.length → bkF V i p k = ((p.take k).filter fun x => cm (comesM V) x i).length
  | 0, _ => rfl
  | k + 1, hk => by
    have hkl : k < p.length := by omega
    rw [List.take_succ_eq_append_getElem hkl, List.filter_append, List.length_append, ← bkF_filter V i p k (by omega), bkF, at0_lt_of hkl]
    by_cases h : cm (comesM V) p[k] i = true
    · rw [if_pos h, List.filter_cons_of_pos (p := fun x => cm (comesM V) x i) h]; rfl
    · rw [if_neg h, List.filter_cons_of_neg (p := fun x => cm (comesM V) x i) h]; rfl
theorem backV_filter (V : List (List Nat)) (i : Nat) : backV V i = ((part V i).filter fun x => cm (comesM V) x i).length := by
  unfold backV
  rw [bkF_filter V i _ _ (Nat.le_refl _), List.take_length]
theorem back_pos {V : List (List Nat)} (hV : WF V) {i : Nat} (hi : i < V.length) : 0 < backV V i ↔ ∃ e ∈ part V i, Path V e i := by
  rw [back_reach hV hi, reach_iff hV hi hi]
  rfl
theorem back_ring {V : List (List Nat)} (hV : WF V) {c j : Nat} (hc : c < V.length) (h1 : Path V c j) (h2 : Path V j c) (h : 0 < backV V c ∨ c ≠ j) : 0 < backV V c := by
  rcases h with h | h
  · exact h
  · rcases path_head h1 with h3 | ⟨e, he, hp⟩
    · exact absurd h3 h
    · exact (back_pos hV hc).2 ⟨e, he, hp.trans h2⟩
/-- The letters that do not lead back. -/
def oth (V : List (List Nat)) (c : Nat) : List Nat := (part V c).filter fun x => !cm (comesM V) x c
def nxt (V : List (List Nat)) (c : Nat) : Nat := (((part V c).filter fun x => cm (comesM V) x c)[0]?).getD c
theorem sI_split {α : Type} (q : α → Bool) (g : α → Int) : ∀ l : List α, sI l g = sI (l.filter q) g + sI (l.filter fun x => !q x) g
  | [] => rfl
  | a :: l => by
    have ih := sI_split q g l
    by_cases h : q a = true
    · rw [List.filter_cons_of_pos h, List.filter_cons_of_neg (by simp [h])]
      show g a + sI l g = g a + sI _ g + _
      omega
    · rw [List.filter_cons_of_neg h, List.filter_cons_of_pos (by simpa using h)]
      show g a + sI l g = _ + (g a + sI _ g)
      omega
theorem nxt_facts {V : List (List Nat)} (hV : WF V) {c : Nat} (hc : c < V.length) (hb : backV V c = 1) :
    (∀ g : Nat → Int, sI (part V c) g = g (nxt V c) + sI (oth V c) g) ∧ nxt V c ∈ part V c ∧ Path V (nxt V c) c ∧ (∀ e ∈ part V c, Path V e c → e = nxt V c) ∧ (∀ e ∈ oth V c, e ∈ part V c ∧ ¬ Path V e c) ∧ (∀ e ∈ part V c, ¬ Path V e c → e ∈ oth V c) := by
  rw [backV_filter] at hb
  have hlt := (hV.part_le c).2
  obtain ⟨n, hn⟩ := List.length_eq_one_iff.1 hb
  have hx : nxt V c = n := by unfold nxt; rw [hn]; rfl
  have hm : n ∈ (part V c).filter fun x => cm (comesM V) x c := by rw [hn]; simp
  have hm := List.mem_filter.1 hm
  rw [hx]
  refine ⟨fun g => ?_, hm.1, (cm_iff hV (hlt _ hm.1) c).1 hm.2, fun e he hp => ?_, fun e he => ?_, fun e he hp => ?_⟩
  · rw [sI_split (fun x => cm (comesM V) x c) g, hn]
    show g n + 0 + _ = _
    rw [Int.add_zero]
    rfl
  · have : e ∈ (part V c).filter fun x => cm (comesM V) x c := List.mem_filter.2 ⟨he, (cm_iff hV (hlt _ he) c).2 hp⟩
    rw [hn] at this
    simpa using this
  · have := List.mem_filter.1 he
    refine ⟨this.1, fun hp => ?_⟩
    have h2 := (cm_iff hV (hlt _ this.1) c).2 hp
    simp [h2] at this
  · refine List.mem_filter.2 ⟨he, ?_⟩
    cases h : cm (comesM V) e c with
    | false => rfl
    | true => exact absurd ((cm_iff hV (hlt _ he) c).1 h) hp
/-- Round the ring. -/
def orb (V : List (List Nat)) (c : Nat) : Nat → Nat
  | 0 => c
  | k + 1 => nxt V (orb V c k)
theorem orb_add {V : List (List Nat)} {c a b : Nat} (h : orb V c a = orb V c b) : ∀ k, orb V c (a + k) = orb V c (b + k)
  | 0 => h
  | k + 1 => by
    show nxt V (orb V c (a + k)) = nxt V (orb V c (b + k))
    rw [orb_add h k]
theorem orb_mul {V : List (List Nat)} {c r : Nat} (h : orb V c r = c) : ∀ q, orb V c (r * q) = c
  | 0 => rfl
  | q + 1 => by
    have h1 := orb_add (show orb V c (r * q) = orb V c 0 from orb_mul h q) r
    rw [Nat.zero_add, h] at h1
    rw [Nat.mul_succ]
    exact h1
def exL (V : List (List Nat)) (c : Nat) : Nat → List (Nat × Nat)
  | 0 => []
  | k + 1 => ((exL V c k).map fun p => (p.1, p.2 + 1)) ++ (oth V (orb V c k)).map fun e => (e, 0)
theorem exL_of {V : List (List Nat)} {c : Nat} : ∀ {k t e : Nat}, t < k → e ∈ oth V (orb V c t) → ∃ s, (e, s) ∈ exL V c k
  | k + 1, t, e, ht, he => by
    by_cases h : t = k
    · subst h
      exact ⟨0, List.mem_append.2 (.inr (List.mem_map.2 ⟨e, he, rfl⟩))⟩
    · obtain ⟨s, hs⟩ := exL_of (k := k) (t := t) (by omega) he
      exact ⟨s + 1, List.mem_append.2 (.inl (List.mem_map.2 ⟨(e, s), hs, rfl⟩))⟩
theorem of_exL {V : List (List Nat)} {c : Nat} : ∀ {k : Nat} {p : Nat × Nat}, p ∈ exL V c k → ∃ t, t < k ∧ p.1 ∈ oth V (orb V c t)
  | k + 1, p, h => by
    rcases List.mem_append.1 h with h | h
    · obtain ⟨q, hq, rfl⟩ := List.mem_map.1 h
      obtain ⟨t, ht, h2⟩ := of_exL (k := k) hq
      exact ⟨t, by omega, h2⟩
    · obtain ⟨e, he, rfl⟩ := List.mem_map.1 h
      exact ⟨k, by omega, he⟩
def Tame (V : List (List Nat)) (c : Nat) : Prop := ∀ j, Path V c j → backV V j ≤ 1
theorem Tame.path {V : List (List Nat)} {c j : Nat} (h : Tame V c) (hp : Path V c j) : Tame V j := fun k hk => h k (hp.trans hk)
section
variable {V : List (List Nat)} (hV : WF V) {c : Nat} (hc : c < V.length) (ht : Tame V c) (hr : 0 < backV V c)
include hV hc ht hr
theorem orb_facts : ∀ k, orb V c k < V.length ∧ Path V c (orb V c k) ∧ Path V (orb V c k) c ∧ backV V (orb V c k) = 1
  | 0 => ⟨hc, .refl, .refl, by have := ht c .refl; show backV V c = 1; omega⟩
  | k + 1 => by
    obtain ⟨h1, h2, h3, h4⟩ := orb_facts k
    obtain ⟨_, n2, n3, _⟩ := nxt_facts hV h1 h4
    have p1 : Path V c (orb V c (k + 1)) := h2.step n2
    have p2 : Path V (orb V c (k + 1)) c := n3.trans h3
    have hl := path_lt hV hc p1
    refine ⟨hl, p1, p2, ?_⟩
    have := ht _ p1
    have : 0 < backV V (orb V c (k + 1)) := by
      by_cases he : orb V c (k + 1) = c
      · rw [he]; exact hr
      · exact back_ring hV hl p2 p1 (.inr he)
    omega
theorem unroll : ∀ k y, Lc V c (y + k) = Lc V (orb V c k) y + sI (exL V c k) (fun p => Lc V p.1 (y + p.2))
  | 0, y => by simp [orb, exL, sI]
  | k + 1, y => by
    have ih := unroll k (y + 1)
    obtain ⟨h1, h2, h3, h4⟩ := orb_facts hV hc ht hr k
    obtain ⟨n1, _⟩ := nxt_facts hV h1 h4
    rw [show y + (k + 1) = y + 1 + k by omega, ih, Lc_succ, n1]
    show _ = Lc V (nxt V (orb V c k)) y + sI (((exL V c k).map fun p => (p.1, p.2 + 1)) ++ (oth V (orb V c k)).map fun e => (e, 0)) _
    rw [sI_app, sI_map, sI_map]
    have : (fun (a : Nat × Nat) => Lc V a.1 (y + 1 + a.2)) = fun a => Lc V a.1 (y + (a.2 + 1)) := by
      funext a
      rw [show y + 1 + a.2 = y + (a.2 + 1) by omega]
    rw [this]
    simp only [Nat.add_zero]
    omega
theorem orb_all {j : Nat} (h1 : Path V (orb V c 1) j) (h2 : Path V j c) : ∃ t, 1 ≤ t ∧ j = orb V c t := by
  induction h1 with
  | refl => exact ⟨1, by omega, rfl⟩
  | @step i k hp hk ih =>
    obtain ⟨t, h3, rfl⟩ := ih ((path_one hk).trans h2)
    obtain ⟨o1, o2, o3, o4⟩ := orb_facts hV hc ht hr t
    obtain ⟨_, _, _, n4, _⟩ := nxt_facts hV o1 o4
    exact ⟨t + 1, by omega, n4 k hk (h2.trans o2)⟩
theorem orb_back : ∃ r, 1 ≤ r ∧ orb V c r = c := by
  obtain ⟨o1, o2, o3, o4⟩ := orb_facts hV hc ht hr 1
  obtain ⟨t, h1, h2⟩ := orb_all hV hc ht hr o3 .refl
  exact ⟨t, h1, h2.symm⟩
end
theorem least_of {P : Nat → Prop} : ∀ (n : Nat), P n → ∃ r, P r ∧ ∀ s, s < r → ¬ P s := fun n => by
  induction n using Nat.strongRecOn with
  | ind n ih =>
    intro h
    by_cases hh : ∃ m, m < n ∧ P m
    · obtain ⟨m, hm, hp⟩ := hh
      exact ih m hm hp
    · exact ⟨n, h, fun s hs hp => hh ⟨s, hs, hp⟩⟩
section
variable {V : List (List Nat)} (hV : WF V) {c : Nat} (hc : c < V.length) (ht : Tame V c) (hr : 0 < backV V c)
include hV hc ht hr
theorem orb_le : ∃ r, 1 ≤ r ∧ r ≤ V.length ∧ orb V c r = c := by
  obtain ⟨r0, hr0, he0⟩ := orb_back hV hc ht hr
  obtain ⟨r, ⟨h1, h2⟩, h3⟩ := least_of (P := fun r => 1 ≤ r ∧ orb V c r = c) r0 ⟨hr0, he0⟩
  refine ⟨r, h1, ?_, h2⟩
  have hnd : ((List.range r).map (orb V c)).Nodup := by
    rw [List.nodup_iff_pairwise_ne, List.pairwise_iff_getElem]
    intro a b ha hb hab he
    simp only [List.length_map, List.length_range] at ha hb
    simp only [List.getElem_map, List.getElem_range] at he
    have h4 := orb_add he (r - b)
    rw [show b + (r - b) = r by omega, h2] at h4
    exact h3 (a + (r - b)) (by omega) ⟨by omega, h4⟩
  have := nodup_le _ (List.range V.length) hnd (fun x hx => by
    obtain ⟨k, hk, rfl⟩ := List.mem_map.1 hx
    exact List.mem_range.2 (orb_facts hV hc ht hr k).1)
  simpa using this
theorem orb_60 : orb V c 60 = c := by
  obtain ⟨r, h1, h2, h3⟩ := orb_le hV hc ht hr
  have h6 := hV.le
  have hm := orb_mul h3
  match r, h1, Nat.le_trans h2 h6 with
  | 1, _, _ => exact hm 60
  | 2, _, _ => exact hm 30
  | 3, _, _ => exact hm 20
  | 4, _, _ => exact hm 15
  | 5, _, _ => exact hm 12
  | 6, _, _ => exact hm 10
theorem orb_mod (t : Nat) : orb V c t = orb V c (t % 60) := by
  have h := orb_mul (orb_60 hV hc ht hr) (t / 60)
  have h1 := orb_add (show orb V c (60 * (t / 60)) = orb V c 0 from h) (t % 60)
  rw [Nat.zero_add, Nat.div_add_mod] at h1
  exact h1
/-- Whoever comes of a ring: of its letters, or of one that leaves it. -/
theorem ring_exits {j : Nat} (h : Path V c j) : (∃ t, t < 60 ∧ j = orb V c t) ∨ ∃ p ∈ exL V c 60, Path V p.1 j := by
  induction h with
  | refl => exact .inl ⟨0, by omega, rfl⟩
  | @step i k hp hk ih =>
    rcases ih with ⟨t, h60, rfl⟩ | ⟨p, hp1, hp2⟩
    · obtain ⟨o1, o2, o3, o4⟩ := orb_facts hV hc ht hr t
      obtain ⟨_, _, _, n4, _, n6⟩ := nxt_facts hV o1 o4
      by_cases hb : Path V k (orb V c t)
      · refine .inl ⟨(t + 1) % 60, Nat.mod_lt _ (by omega), ?_⟩
        rw [← orb_mod hV hc ht hr]
        exact n4 k hk hb
      · obtain ⟨s, hs⟩ := exL_of (V := V) (c := c) h60 (n6 k hk hb)
        exact .inr ⟨(k, s), hs, .refl⟩
    · exact .inr ⟨p, hp1, hp2.step hk⟩
theorem exits_dn {p : Nat × Nat} (h : p ∈ exL V c 60) : p.1 < V.length ∧ dn V c p.1 = true := by
  obtain ⟨t, _, h2⟩ := of_exL h
  obtain ⟨o1, o2, o3, o4⟩ := orb_facts hV hc ht hr t
  obtain ⟨_, _, _, _, n5, _⟩ := nxt_facts hV o1 o4
  obtain ⟨m1, m2⟩ := n5 _ h2
  have hl := (hV.part_le _).2 _ m1
  refine ⟨hl, ?_⟩
  have q1 : Path V c p.1 := o2.step m1
  have q2 : ¬ Path V p.1 c := fun hp => m2 (hp.trans o2)
  have q3 : p.1 ≠ c := fun e => q2 (by rw [e]; exact .refl)
  unfold dn
  rw [(cm_iff hV hc _).2 q1, decide_eq_false q3]
  cases hh : cm (comesM V) p.1 c with
  | false => rfl
  | true => exact absurd ((cm_iff hV hl c).1 hh) q2
end
end Go.Proofs.YtilacamhjibneaaDoor

/- The differences of as high an order as there are rings, one behind the other. Plain facts. Their conditions are their premises. -/
namespace Go.Proofs.YtilacamhjibneaaDoor
open Go.RowKit

theorem mxF_ge {g : Nat → Nat} {p : Nat → Bool} : ∀ {k j : Nat}, j < k → p j = true → g j ≤ mxF g p k
  | k + 1, j, h, hp => by
    unfold mxF
    by_cases hj : j = k
    · subst hj; rw [if_pos hp]; exact Nat.le_max_right _ _
    · have := mxF_ge (g := g) (p := p) (k := k) (j := j) (by omega) hp
      split
      · exact Nat.le_trans this (Nat.le_max_left _ _)
      · exact this
theorem mxF_got {g : Nat → Nat} {p : Nat → Bool} : ∀ {k : Nat}, 1 ≤ mxF g p k → ∃ j, j < k ∧ p j = true ∧ g j = mxF g p k
  | 0, h => by simp [mxF] at h
  | k + 1, h => by
    unfold mxF at h ⊢
    by_cases hp : p k = true
    · rw [if_pos hp] at h ⊢
      by_cases hm : mxF g p k ≤ g k
      · exact ⟨k, by omega, hp, by omega⟩
      · obtain ⟨j, h1, h2, h3⟩ := mxF_got (g := g) (p := p) (k := k) (by omega)
        exact ⟨j, by omega, h2, by omega⟩
    · rw [if_neg hp] at h ⊢
      obtain ⟨j, h1, h2, h3⟩ := mxF_got (g := g) (p := p) (k := k) h
      exact ⟨j, by omega, h2, h3⟩
theorem mxF_congr {g h : Nat → Nat} {p q : Nat → Bool} : ∀ {k : Nat}, (∀ j, j < k → p j = q j) → (∀ j, j < k → p j = true → g j = h j) → mxF g p k = mxF h q k
  | 0, _, _ => rfl
  | k + 1, h1, h2 => by
    unfold mxF
    rw [mxF_congr (k := k) (fun j hj => h1 j (by omega)) (fun j hj => h2 j (by omega)), h1 k (by omega)]
    by_cases hp : q k = true
    · rw [if_pos hp, if_pos hp, h2 k (by omega) (by rw [h1 k (by omega)]; exact hp)]
    · rw [if_neg hp, if_neg hp]
theorem dn_iff {V : List (List Nat)} (hV : WF V) {c j : Nat} (hc : c < V.length) (hj : j < V.length) : dn V c j = true ↔ Path V c j ∧ ¬ Path V j c := by
  unfold dn
  rw [Bool.and_eq_true, Bool.and_eq_true, cm_iff hV hc j]
  constructor
  · rintro ⟨⟨_, h1⟩, h2⟩
    refine ⟨h1, fun hp => ?_⟩
    rw [(cm_iff hV hj c).2 hp] at h2
    simp at h2
  · rintro ⟨h1, h2⟩
    refine ⟨⟨?_, h1⟩, ?_⟩
    · rw [decide_eq_false (fun e => h2 (by rw [e]; exact .refl))]
      rfl
    · cases h : cm (comesM V) j c with
      | false => rfl
      | true => exact absurd ((cm_iff hV hj c).1 h) h2
theorem chF_stab {V : List (List Nat)} (hV : WF V) : ∀ (f c : Nat), c < V.length → rk V c ≤ f → chF V (f + 1) c = chF V f c
  | 0, c, hc, h => by have := rk_pos hV hc; omega
  | f + 1, c, hc, h => by
    show (if 0 < backV V c then 1 else 0) + mxF (chF V (f + 1)) (dn V c) V.length = (if 0 < backV V c then 1 else 0) + mxF (chF V f) (dn V c) V.length
    rw [mxF_congr (g := chF V (f + 1)) (h := chF V f) (p := dn V c) (q := dn V c) (k := V.length) (fun _ _ => rfl) (fun j hj hd => chF_stab hV f j hj (by have := rk_dn hV hc hj hd; omega))]
theorem chF_path {V : List (List Nat)} (hV : WF V) {c j : Nat} (hc : c < V.length) (h : Path V c j) {f : Nat} (hf : rk V c ≤ f) : chF V f j ≤ chF V f c := by
  have hj := path_lt hV hc h
  cases f with
  | zero => have := rk_pos hV hc; omega
  | succ f =>
    by_cases hb : Path V j c
    · refine Nat.le_of_eq ?_
      have ho : (0 < backV V j) ↔ (0 < backV V c) := by
        by_cases he : c = j
        · subst he; exact Iff.rfl
        · constructor
          · intro _; exact back_ring hV hc h hb (.inr he)
          · intro _; exact back_ring hV hj hb h (.inr (fun e => he e.symm))
      have hm : mxF (chF V f) (dn V j) V.length = mxF (chF V f) (dn V c) V.length := mxF_congr (fun k hk => by
        rw [Bool.eq_iff_iff, dn_iff hV hj hk, dn_iff hV hc hk]
        constructor
        · rintro ⟨h1, h2⟩; exact ⟨h.trans h1, fun hp => h2 (hp.trans h)⟩
        · rintro ⟨h1, h2⟩; exact ⟨hb.trans h1, fun hp => h2 (hp.trans hb)⟩) (fun _ _ _ => rfl)
      unfold chF
      rw [hm]
      by_cases hr : 0 < backV V c
      · rw [if_pos hr, if_pos (ho.2 hr)]
      · rw [if_neg hr, if_neg (fun h => hr (ho.1 h))]
    · have hd := (dn_iff hV hc hj).2 ⟨h, hb⟩
      have h1 := rk_dn hV hc hj hd
      rw [chF_stab hV f j hj (by omega)]
      have h2 := mxF_ge (g := chF V f) hj hd
      have e : chF V (f + 1) c = (if 0 < backV V c then 1 else 0) + mxF (chF V f) (dn V c) V.length := rfl
      rw [e]
      split <;> omega
/-- After how many years the differences tell. -/
def htF (V : List (List Nat)) : Nat → Nat → Nat
  | 0, _ => 0
  | f + 1, c => (if 0 < backV V c then 0 else 1) + mxF (htF V f) (dn V c) V.length
theorem htF_le (V : List (List Nat)) : ∀ f c, htF V f c ≤ f
  | 0, _ => Nat.le_refl _
  | f + 1, c => by
    have := mxF_le (htF V f) (dn V c) f (htF_le V f) V.length
    unfold htF
    split <;> omega
theorem orders {V : List (List Nat)} (hV : WF V) : ∀ (f c : Nat), c < V.length → rk V c ≤ f → Tame V c → ∀ y, htF V f c ≤ y → difn (chF V f c) (Lc V c) y = 0 ∧ (1 ≤ chF V f c → 1 ≤ difn (chF V f c - 1) (Lc V c) y)
  | 0, c, hc, hr, _ => by have := rk_pos hV hc; omega
  | f + 1, c, hc, hrk, ht => by
    -- what holds of the parts behind
    have ih : ∀ j, j < V.length → dn V c j = true → ∀ y, mxF (htF V f) (dn V c) V.length ≤ y → ∀ m, mxF (chF V f) (dn V c) V.length ≤ m → difn m (Lc V j) y = 0 := by
      intro j hj hd y hy m hm
      have h1 := mxF_ge (g := chF V f) hj hd
      have h2 := mxF_ge (g := htF V f) hj hd
      have hp := (dn_iff hV hc hj).1 hd
      have h3 := orders hV f j hj (by have := rk_dn hV hc hj hd; omega) (ht.path hp.1)
      have h4 := difn_up (m := chF V f j) (h := htF V f j) (f := Lc V j) (fun y hy => (h3 y hy).1) (m - chF V f j) y (by omega)
      rw [show chF V f j + (m - chF V f j) = m by omega] at h4
      exact h4
    have ip : ∀ j, j < V.length → dn V c j = true → ∀ y, mxF (htF V f) (dn V c) V.length ≤ y → 1 ≤ mxF (chF V f) (dn V c) V.length → 0 ≤ difn (mxF (chF V f) (dn V c) V.length - 1) (Lc V j) y ∧ (chF V f j = mxF (chF V f) (dn V c) V.length → 1 ≤ difn (mxF (chF V f) (dn V c) V.length - 1) (Lc V j) y) := by
      intro j hj hd y hy hm
      have h1 := mxF_ge (g := chF V f) hj hd
      have h2 := mxF_ge (g := htF V f) hj hd
      have hp := (dn_iff hV hc hj).1 hd
      have h3 := orders hV f j hj (by have := rk_dn hV hc hj hd; omega) (ht.path hp.1)
      have h5 := (h3 y (by omega)).2
      have key : chF V f j = mxF (chF V f) (dn V c) V.length → 1 ≤ difn (mxF (chF V f) (dn V c) V.length - 1) (Lc V j) y := fun he => by
        rw [he] at h5
        exact h5 hm
      refine ⟨?_, key⟩
      by_cases he : chF V f j = mxF (chF V f) (dn V c) V.length
      · have := key he
        omega
      · have h4 := difn_up (m := chF V f j) (h := htF V f j) (f := Lc V j) (fun y hy => (h3 y hy).1) (mxF (chF V f) (dn V c) V.length - 1 - chF V f j) y (by omega)
        rw [show chF V f j + (mxF (chF V f) (dn V c) V.length - 1 - chF V f j) = mxF (chF V f) (dn V c) V.length - 1 by omega] at h4
        omega
    have hgot : 1 ≤ mxF (chF V f) (dn V c) V.length → ∃ j, j < V.length ∧ dn V c j = true ∧ chF V f j = mxF (chF V f) (dn V c) V.length := fun h => mxF_got h
    have hge : ∀ j, j < V.length → dn V c j = true → chF V f j ≤ mxF (chF V f) (dn V c) V.length := fun j hj hd => mxF_ge hj hd
    have hrkd : ∀ j, j < V.length → dn V c j = true → rk V j ≤ f := fun j hj hd => by have := rk_dn hV hc hj hd; omega
    have eC : chF V (f + 1) c = (if 0 < backV V c then 1 else 0) + mxF (chF V f) (dn V c) V.length := rfl
    have eH : htF V (f + 1) c = (if 0 < backV V c then 0 else 1) + mxF (htF V f) (dn V c) V.length := rfl
    rw [eC, eH]
    clear eC eH
    generalize mxF (chF V f) (dn V c) V.length = M at ih ip hgot hge ⊢
    generalize mxF (htF V f) (dn V c) V.length = H at ih ip ⊢
    intro y hy
    by_cases hr : 0 < backV V c
    · rw [if_pos hr] at hy ⊢
      have hD : ∀ y, dif (Lc V c) y = sI (exL V c 60) (fun p => Lc V p.1 (y + p.2)) := fun y => by
        have := unroll hV hc ht hr 60 y
        rw [orb_60 hV hc ht hr] at this
        show Lc V c (y + 60) - Lc V c y = _
        omega
      have hDf : dif (Lc V c) = fun y => sI (exL V c 60) (fun p => Lc V p.1 (y + p.2)) := funext hD
      have hDn : ∀ m y, difn (m + 1) (Lc V c) y = sI (exL V c 60) (fun p => difn m (Lc V p.1) (y + p.2)) := fun m y => by
        show difn m (dif (Lc V c)) y = _
        rw [hDf, difn_sum (exL V c 60) m (fun p y => Lc V p.1 (y + p.2))]
        congr 1
        funext p
        exact difn_shift p.2 m (Lc V p.1) y
      constructor
      · rw [Nat.add_comm 1 M, hDn]
        refine sI_zero (fun p hp => ?_)
        obtain ⟨h1, h2⟩ := exits_dn hV hc ht hr hp
        exact ih p.1 h1 h2 _ (by omega) M (Nat.le_refl _)
      · intro _
        rw [Nat.add_sub_cancel_left]
        cases M with
        | zero =>
          have := lives_of_ring hV hc hc ((cm_iff hV hc c).2 .refl) hr y
          show 1 ≤ Lc V c y
          unfold Lc
          have := List.length_pos_iff.2 this
          omega
        | succ m =>
          rw [hDn]
          obtain ⟨j, hj, hd, he⟩ := hgot (by omega)
          have hp := (dn_iff hV hc hj).1 hd
          have hex : ∃ p ∈ exL V c 60, Path V p.1 j := by
            rcases ring_exits hV hc ht hr hp.1 with ⟨t, _, rfl⟩ | h
            · exact absurd (orb_facts hV hc ht hr t).2.2.1 hp.2
            · exact h
          obtain ⟨p, hp1, hp2⟩ := hex
          obtain ⟨h1, h2⟩ := exits_dn hV hc ht hr hp1
          have h3 := chF_path hV h1 hp2 (hrkd _ h1 h2)
          have h4 := hge _ h1 h2
          refine sI_pos (fun q hq => ?_) hp1 ?_
          · obtain ⟨h5, h6⟩ := exits_dn hV hc ht hr hq
            exact (ip q.1 h5 h6 _ (by omega) (by omega)).1
          · exact (ip p.1 h1 h2 _ (by omega) (by omega)).2 (by omega)
    · rw [if_neg hr] at hy ⊢
      rw [Nat.zero_add]
      obtain ⟨x, rfl⟩ : ∃ x, y = x + 1 := ⟨y - 1, by omega⟩
      have hpd : ∀ e ∈ part V c, e < V.length ∧ dn V c e = true := fun e he => by
        have hl := (hV.part_le c).2 e he
        exact ⟨hl, (dn_iff hV hc hl).2 ⟨path_one he, fun hp => hr ((back_pos hV hc).2 ⟨e, he, hp⟩)⟩⟩
      have hDn : ∀ m, difn m (Lc V c) (x + 1) = sI (part V c) (fun e => difn m (Lc V e) x) := fun m => by
        rw [← difn_shift 1 m (Lc V c) x]
        have : (fun y => Lc V c (y + 1)) = fun y => sI (part V c) (fun e => Lc V e y) := funext (Lc_succ V c)
        rw [this, difn_sum (part V c) m (Lc V)]
      constructor
      · rw [hDn]
        refine sI_zero (fun e he => ?_)
        obtain ⟨h1, h2⟩ := hpd e he
        exact ih e h1 h2 x (by omega) M (Nat.le_refl _)
      · intro hM
        rw [hDn]
        obtain ⟨j, hj, hd, he⟩ := hgot hM
        have hp := (dn_iff hV hc hj).1 hd
        rcases path_head hp.1 with rfl | ⟨e, he2, hp2⟩
        · exact absurd .refl hp.2
        · obtain ⟨h1, h2⟩ := hpd e he2
          have h3 := chF_path hV h1 hp2 (hrkd _ h1 h2)
          have h4 := hge _ h1 h2
          refine sI_pos (fun q hq => ?_) he2 ?_
          · obtain ⟨h5, h6⟩ := hpd q hq
            exact (ip q h5 h6 _ (by omega) (by omega)).1
          · exact (ip e h1 h2 _ (by omega) (by omega)).2 (by omega)
/-- The same of a whole shoot without wild letters. -/
theorem orders_str {V : List (List Nat)} (hV : WF V) {s : List Nat} (hs : ∀ c ∈ s, c < V.length) (ht : ∀ c ∈ s, Tame V c) {m : Nat} (hm : mxL (chF V V.length) s s.length = m) (y : Nat) (hy : 6 ≤ y) :
    difn m (fun y => ((gen V y s).length : Int)) y = 0 ∧ (1 ≤ m → 1 ≤ difn (m - 1) (fun y => ((gen V y s).length : Int)) y) := by
  have h6 := hV.le
  have hf : (fun y => ((gen V y s).length : Int)) = fun y => sI s (fun c => Lc V c y) := funext (fun y => Lc_str V y s)
  have hle : ∀ c ∈ s, chF V V.length c ≤ m := fun c hc => by
    obtain ⟨j, hj, rfl⟩ := List.getElem_of_mem hc
    have := mxL_ge (g := chF V V.length) (t := s) hj
    rw [at0_lt_of hj, hm] at this
    exact this
  have key := fun c (hc : c ∈ s) => orders hV V.length c (hs c hc) (rk_le V c) (ht c hc)
  have hht := fun c => htF_le V V.length c
  rw [hf, difn_sum s m (Lc V)]
  constructor
  · refine sI_zero (fun c hc => ?_)
    have h4 := difn_up (m := chF V V.length c) (h := htF V V.length c) (f := Lc V c) (fun y hy => (key c hc y hy).1) (m - chF V V.length c) y (by have := hht c; omega)
    rwa [show chF V V.length c + (m - chF V V.length c) = m by have := hle c hc; omega] at h4
  · intro h1
    rw [difn_sum s (m - 1) (Lc V)]
    have hgot : ∀ k, 1 ≤ mxL (chF V V.length) s k → k ≤ s.length → ∃ c ∈ s, chF V V.length c = mxL (chF V V.length) s k := by
      intro k
      induction k with
      | zero => intro h; simp [mxL] at h
      | succ k ih =>
        intro h hk
        have hkl : k < s.length := by omega
        unfold mxL at h ⊢
        rw [at0_lt_of hkl] at h ⊢
        by_cases hmx : mxL (chF V V.length) s k ≤ chF V V.length s[k]
        · exact ⟨s[k], List.getElem_mem hkl, by omega⟩
        · obtain ⟨c, h2, h3⟩ := ih (by omega) (by omega)
          exact ⟨c, h2, by omega⟩
    obtain ⟨c, hc, he⟩ := hgot s.length (by omega) (Nat.le_refl _)
    rw [hm] at he
    have hpos : ∀ c ∈ s, 0 ≤ difn (m - 1) (Lc V c) y ∧ (chF V V.length c = m → 1 ≤ difn (m - 1) (Lc V c) y) := fun c hc => by
      have h5 := (key c hc y (by have := hht c; omega)).2
      have k1 : chF V V.length c = m → 1 ≤ difn (m - 1) (Lc V c) y := fun e => by rw [e] at h5; exact h5 h1
      refine ⟨?_, k1⟩
      by_cases e : chF V V.length c = m
      · have := k1 e; omega
      · have h4 := difn_up (m := chF V V.length c) (h := htF V V.length c) (f := Lc V c) (fun y hy => (key c hc y hy).1) (m - 1 - chF V V.length c) y (by have := hht c; omega)
        rw [show chF V V.length c + (m - 1 - chF V V.length c) = m - 1 by have := hle c hc; omega] at h4
        omega
    exact sI_pos (fun q hq => (hpos q hq).1) hc ((hpos c hc).2 he)
end Go.Proofs.YtilacamhjibneaaDoor

/- A wild part: some part is there within as many years as there are parts, and at least doubles within 36 years. Plain facts. Their conditions are their premises. -/
namespace Go.Proofs.YtilacamhjibneaaDoor
open Go.RowKit

theorem gen_add (V : List (List Nat)) (a : Nat) : ∀ (b : Nat) (s : List Nat), gen V (a + b) s = gen V b (gen V a s)
  | 0, s => rfl
  | b + 1, s => by rw [← Nat.add_assoc, gen_succ, gen_add V a b s, gen_succ]
theorem gen_via {V : List (List Nat)} {a b c d j : Nat} (h1 : d ∈ gen V a [c]) (h2 : j ∈ gen V b [d]) : j ∈ gen V (a + b) [c] := by
  rw [gen_add]
  exact (gen_mem V b _ j).2 ⟨d, h1, h2⟩
/-- A shorter way. -/
theorem gen_short {V : List (List Nat)} (hV : WF V) {c j y : Nat} (hc : c < V.length) (h : j ∈ gen V y [c]) (hy : V.length ≤ y) : ∃ z, z < y ∧ j ∈ gen V z [c] := by
  have hmid : ∀ t, ∃ a, t ≤ y → a ∈ gen V t [c] ∧ j ∈ gen V (y - t) [a] := fun t => by
    by_cases ht : t ≤ y
    · have h2 := h
      rw [show y = t + (y - t) by omega, gen_add] at h2
      obtain ⟨a, ha, hj⟩ := (gen_mem V _ _ j).1 h2
      exact ⟨a, fun _ => ⟨ha, hj⟩⟩
    · exact ⟨0, fun h => absurd h ht⟩
  obtain ⟨f, hf⟩ := Classical.axiomOfChoice hmid
  by_cases hd : ∃ t u, t < u ∧ u ≤ y ∧ f t = f u
  · obtain ⟨t, u, h1, h2, h3⟩ := hd
    refine ⟨t + (y - u), by omega, ?_⟩
    have a1 := (hf t (by omega)).1
    have a2 := (hf u h2).2
    rw [← h3] at a2
    exact gen_via a1 a2
  · exfalso
    have hnd : ((List.range (y + 1)).map f).Nodup := by
      rw [List.nodup_iff_pairwise_ne, List.pairwise_iff_getElem]
      intro a b ha hb hab he
      simp only [List.length_map, List.length_range] at ha hb
      simp only [List.getElem_map, List.getElem_range] at he
      exact hd ⟨a, b, hab, by omega, he⟩
    have := nodup_le _ (List.range V.length) hnd (fun x hx => by
      obtain ⟨k, hk, rfl⟩ := List.mem_map.1 hx
      have hk := List.mem_range.1 hk
      exact List.mem_range.2 (gen_lt hV k [c] (by intro d hd; simp at hd; omega) _ (hf k (by omega)).1))
    simp at this
    omega
theorem gen_within {V : List (List Nat)} (hV : WF V) {c j : Nat} (hc : c < V.length) (h : Path V c j) : ∃ y, y < V.length ∧ j ∈ gen V y [c] := by
  obtain ⟨y0, h0⟩ := gen_path h
  obtain ⟨y, h1, h2⟩ := least_of (P := fun y => j ∈ gen V y [c]) y0 h0
  refine ⟨y, ?_, h1⟩
  by_cases hy : y < V.length
  · exact hy
  · obtain ⟨z, hz, h3⟩ := gen_short hV hc h1 (by omega)
    exact absurd h3 (h2 z hz)
theorem filter_two {α : Type} (q : α → Bool) : ∀ l : List α, 2 ≤ (l.filter q).length → ∃ a x b y r, l = a ++ (x :: (b ++ (y :: r))) ∧ q x = true ∧ q y = true
  | [], h => by simp at h
  | z :: l, h => by
    by_cases hz : q z = true
    · rw [List.filter_cons_of_pos hz] at h
      have hne : 0 < (l.filter q).length := by simp at h; omega
      obtain ⟨y, hy⟩ := List.exists_mem_of_length_pos hne
      obtain ⟨hy1, hy2⟩ := List.mem_filter.1 hy
      obtain ⟨b, r, rfl⟩ := List.append_of_mem hy1
      exact ⟨[], z, b, y, r, rfl, hz, hy2⟩
    · rw [List.filter_cons_of_neg hz] at h
      obtain ⟨a, x, b, y, r, rfl, h1, h2⟩ := filter_two q l h
      exact ⟨z :: a, x, b, y, r, rfl, h1, h2⟩
theorem gen_ring {V : List (List Nat)} {j a : Nat} (h : j ∈ gen V a [j]) : ∀ k, j ∈ gen V (a * k) [j]
  | 0 => by simp [gen]
  | k + 1 => by
    rw [Nat.mul_succ]
    exact gen_via (gen_ring h k) h
/-- A part that comes back in two ways at least doubles. -/
theorem dbl {V : List (List Nat)} (hV : WF V) {j : Nat} (hj : j < V.length) (h : 2 ≤ backV V j) : ∃ y, 1 ≤ y ∧ y ≤ 36 ∧ 2 ≤ (gen V y [j]).count j := by
  rw [backV_filter] at h
  obtain ⟨a, e1, b, e2, r, hp, q1, q2⟩ := filter_two _ _ h
  have hl := (hV.part_le j).2
  rw [hp] at hl
  have l1 := hl e1 (by simp)
  have l2 := hl e2 (by simp)
  obtain ⟨x1, h1, g1⟩ := gen_within hV l1 ((cm_iff hV l1 j).1 q1)
  obtain ⟨x2, h2, g2⟩ := gen_within hV l2 ((cm_iff hV l2 j).1 q2)
  have h6 := hV.le
  have r1 : j ∈ gen V (x1 + 1) [j] := by
    rw [gen_one, hp]
    exact (gen_mem V _ _ j).2 ⟨e1, by simp, g1⟩
  have r2 : j ∈ gen V (x2 + 1) [j] := by
    rw [gen_one, hp]
    exact (gen_mem V _ _ j).2 ⟨e2, by simp, g2⟩
  have m1 : j ∈ gen V (x1 + (x1 + 1) * x2) [e1] := gen_via g1 (gen_ring r1 x2)
  have m2 : j ∈ gen V (x2 + (x2 + 1) * x1) [e2] := gen_via g2 (gen_ring r2 x1)
  have hy : x2 + (x2 + 1) * x1 = x1 + (x1 + 1) * x2 := by grind
  rw [hy] at m2
  have h36 : x1 + (x1 + 1) * x2 ≤ 35 := by
    have : (x1 + 1) * x2 ≤ 6 * 5 := Nat.mul_le_mul (by omega) (by omega)
    omega
  refine ⟨x1 + (x1 + 1) * x2 + 1, by omega, by omega, ?_⟩
  rw [gen_one, hp]
  have sp : ∀ (y : Nat) (c : Nat) (s : List Nat), gen V y (c :: s) = gen V y [c] ++ gen V y s := fun y c s => by
    have := gen_app V y [c] s
    rwa [List.singleton_append] at this
  rw [gen_app, sp _ e1, gen_app, sp _ e2]
  rw [List.count_append, List.count_append, List.count_append, List.count_append]
  have c1 := List.count_pos_iff.2 m1
  have c2 := List.count_pos_iff.2 m2
  omega
theorem wlF_got {V : List (List Nat)} {i : Nat} : ∀ {k : Nat}, wlF V i k = true → ∃ j, j < k ∧ cm (comesM V) i j = true ∧ 1 < backV V j
  | 0, h => by simp [wlF] at h
  | k + 1, h => by
    unfold wlF at h
    by_cases hk : (cm (comesM V) i k && decide (1 < backV V k)) = true
    · rw [Bool.and_eq_true, decide_eq_true_eq] at hk
      exact ⟨k, by omega, hk.1, hk.2⟩
    · rw [if_neg hk] at h
      obtain ⟨j, h1, h2⟩ := wlF_got h
      exact ⟨j, by omega, h2⟩
theorem tame_of {V : List (List Nat)} (hV : WF V) {c : Nat} (hc : c < V.length) (h : wildV V c = false) : Tame V c := fun j hp => by
  have hj := path_lt hV hc hp
  by_cases hb : backV V j ≤ 1
  · exact hb
  · have := wlF_true (V := V) (i := c) (j := j) (by rw [(cm_iff hV hc j).2 hp, decide_eq_true (by omega)]; rfl) hj
    unfold wildV at h
    rw [this] at h
    cases h
/-- A shoot with a wild letter. -/
theorem wild_str {V : List (List Nat)} (hV : WF V) {s : List Nat} {c : Nat} (hc : c < V.length) (hcs : c ∈ s) (h : wildV V c = true) :
    ∃ j, j < V.length ∧ (∃ y, y ≤ V.length ∧ 1 ≤ (gen V y s).count j) ∧ ∃ y, 1 ≤ y ∧ y ≤ 36 ∧ 2 ≤ (gen V y [j]).count j := by
  obtain ⟨j, h1, h2, h3⟩ := wlF_got h
  obtain ⟨y, h4, h5⟩ := gen_within hV hc ((cm_iff hV hc j).1 h2)
  exact ⟨j, h1, ⟨y, by omega, List.count_pos_iff.2 ((gen_mem V y s j).2 ⟨c, hcs, h5⟩)⟩, dbl hV h1 (by omega)⟩
end Go.Proofs.YtilacamhjibneaaDoor
