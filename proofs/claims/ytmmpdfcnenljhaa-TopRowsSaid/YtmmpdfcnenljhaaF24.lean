/- Directed and undirected ways along fences; directions with and without rings; a fence taken away or closed. Plain. -/
import Derived.Test.YtmmpdfcnenljhaaF23
set_option linter.unusedVariables false
namespace Go.Proofs.Ytmmpdfcnenljhaa

def Fe.flip (f : Fe) : Fe := ⟨f.b, f.a⟩
/-- One can go from a post to another one along fences in their directions. -/
def Rch (E : List Fe) (u v : Int) : Prop := ∀ P : Int → Prop, P u → (∀ f ∈ E, P f.a → P f.b) → P v

namespace Rch
variable {E : List Fe} {u v x y : Int} {f : Fe}
theorem refl (E : List Fe) (u : Int) : Rch E u u := fun _ h _ => h
theorem trans (h : Rch E u v) (k : Rch E v x) : Rch E u x := fun P h0 hs => k P (h P h0 hs) hs
theorem edge (hf : f ∈ E) : Rch E f.a f.b := fun P h0 hs => hs f hf h0
theorem step (h : Rch E u f.a) (hf : f ∈ E) : Rch E u f.b := h.trans (edge hf)
theorem mono {E' : List Fe} (h : Rch E u v) (hE : ∀ f ∈ E, f ∈ E') : Rch E' u v := fun P h0 hs => h P h0 fun f hf => hs f (hE f hf)
theorem cons (h : Rch E u v) : Rch (f :: E) u v := h.mono fun _ hf => List.mem_cons_of_mem _ hf
/-- With one fence more. -/
theorem cons_iff : Rch (f :: E) x y ↔ Rch E x y ∨ (Rch E x f.a ∧ Rch E f.b y) := by
  constructor
  · intro h
    refine h (fun z => Rch E x z ∨ (Rch E x f.a ∧ Rch E f.b z)) (.inl (refl _ _)) fun g hg hz => ?_
    rcases List.mem_cons.1 hg with rfl | hg
    · rcases hz with hz | ⟨h1, _⟩
      · exact .inr ⟨hz, refl _ _⟩
      · exact .inr ⟨h1, refl _ _⟩
    · rcases hz with hz | ⟨h1, h2⟩
      · exact .inl (hz.step hg)
      · exact .inr ⟨h1, h2.step hg⟩
  · rintro (h | ⟨h1, h2⟩)
    · exact h.cons
    · exact (h1.cons.step (List.mem_cons_self)).trans h2.cons
/-- A way is none, or it has a first step. -/
theorem last (h : Rch E u v) : u = v ∨ ∃ f ∈ E, Rch E u f.a ∧ Rch E f.b v := by
  refine h (fun z => u = z ∨ ∃ f ∈ E, Rch E u f.a ∧ Rch E f.b z) (.inl rfl) fun g hg hz => .inr ?_
  rcases hz with rfl | ⟨f, hf, h1, h2⟩
  · exact ⟨g, hg, refl _ _, refl _ _⟩
  · exact ⟨f, hf, h1, h2.step hg⟩
end Rch

/-- Where a post goes when the fence f is closed. -/
def clo (f : Fe) (x : Int) : Int := if x = f.b then f.a else x
theorem closeFe_clo (f x : Fe) : closeFe f x = ⟨clo f x.a, clo f x.b⟩ := rfl
theorem clo_b (f : Fe) : clo f f.b = f.a := by unfold clo; rw [if_pos rfl]
theorem clo_a (f : Fe) : clo f f.a = f.a := by unfold clo; split <;> rfl
theorem flip_flip (f : Fe) : f.flip.flip = f := rfl
theorem close_flip (f x : Fe) : closeFe f x.flip = (closeFe f x).flip := rfl

/-- Ways with the fence f to be passed both ways. -/
def Both (E : List Fe) (f : Fe) (x y : Int) : Prop := Rch E x y ∨ (Rch E x f.a ∧ Rch E f.b y) ∨ (Rch E x f.b ∧ Rch E f.a y)

theorem both_iff (E : List Fe) (f : Fe) (x y : Int) : Rch (f :: f.flip :: E) x y ↔ Both E f x y := by
  rw [Rch.cons_iff, Rch.cons_iff, Rch.cons_iff, Rch.cons_iff]
  unfold Both Fe.flip
  dsimp only
  constructor
  · rintro ((h | h) | ⟨h1 | ⟨h1, h1'⟩, h2 | ⟨h2, h2'⟩⟩)
    · exact .inl h
    · exact .inr (.inr h)
    · exact .inr (.inl ⟨h1, h2⟩)
    · exact .inl (h1.trans h2')
    · exact .inl (h1.trans h2)
    · exact .inr (.inr ⟨h1, h2'⟩)
  · rintro (h | ⟨h1, h2⟩ | h)
    · exact .inl (.inl h)
    · exact .inr ⟨.inl h1, .inl h2⟩
    · exact .inl (.inr h)

/-- Ways when f is closed. -/
theorem closed_iff (E : List Fe) (f : Fe) (x y : Int) : Rch (E.map (closeFe f)) (clo f x) (clo f y) ↔ Both E f x y := by
  rw [← both_iff]
  have key : ∀ z, Rch (f :: f.flip :: E) z (clo f z) ∧ Rch (f :: f.flip :: E) (clo f z) z := fun z => by
    unfold clo
    by_cases h : z = f.b
    · subst h
      rw [if_pos rfl]
      exact ⟨Rch.edge (f := f.flip) (by simp), Rch.edge (f := f) (by simp)⟩
    · rw [if_neg h]
      exact ⟨Rch.refl _ _, Rch.refl _ _⟩
  constructor
  · intro h
    have h2 : Rch (f :: f.flip :: E) (clo f x) (clo f y) := by
      refine h (fun z => Rch (f :: f.flip :: E) (clo f x) z) (Rch.refl _ _) fun g hg hz => ?_
      obtain ⟨g0, hg0, rfl⟩ := List.mem_map.1 hg
      rw [closeFe_clo] at hz ⊢
      dsimp only at hz ⊢
      exact ((hz.trans (key g0.a).2).step (by simp [hg0])).trans (key g0.b).1
    exact ((key x).1.trans h2).trans (key y).2
  · intro h
    refine h (fun z => Rch (E.map (closeFe f)) (clo f x) (clo f z)) (Rch.refl _ _) fun g hg hz => ?_
    rcases List.mem_cons.1 hg with rfl | hg
    · rw [clo_b]; rw [clo_a] at hz; exact hz
    · rcases List.mem_cons.1 hg with rfl | hg
      · show Rch _ _ (clo f f.a)
        have : clo f f.flip.a = f.a := clo_b f
        rw [this] at hz
        rw [clo_a]; exact hz
      · have := hz.trans (Rch.edge (E := E.map (closeFe f)) (f := closeFe f g) (List.mem_map_of_mem hg))
        exact this

/-- No fence is in a ring; every fence is in a ring. -/
def Acy (E : List Fe) : Prop := ∀ e ∈ E, ¬ Rch E e.b e.a
def Cyc (E : List Fe) : Prop := ∀ e ∈ E, Rch E e.b e.a

section
variable {E : List Fe} {f : Fe}
theorem acy_cons : Acy (f :: E) ↔ Acy E ∧ ¬ Rch E f.b f.a := by
  unfold Acy
  constructor
  · intro h
    have h0 : ¬ Rch E f.b f.a := fun hk => h f List.mem_cons_self hk.cons
    exact ⟨fun e he hk => h e (List.mem_cons_of_mem _ he) hk.cons, h0⟩
  · rintro ⟨h1, h2⟩ e he hk
    rcases List.mem_cons.1 he with rfl | he
    · rcases Rch.cons_iff.1 hk with h | ⟨h, _⟩
      · exact h2 h
      · exact h2 h
    · rcases Rch.cons_iff.1 hk with h | ⟨h3, h4⟩
      · exact h1 e he h
      · exact h2 ((h4.step he).trans h3)
theorem acy_closed (hne : f.a ≠ f.b) : Acy (E.map (closeFe f)) ↔ Acy E ∧ ¬ Rch E f.b f.a ∧ ¬ Rch E f.a f.b := by
  have hmap : Acy (E.map (closeFe f)) ↔ ∀ e ∈ E, ¬ Both E f e.b e.a := by
    unfold Acy
    constructor
    · intro h e he hk
      exact h (closeFe f e) (List.mem_map_of_mem he) (by rw [closeFe_clo]; exact (closed_iff E f e.b e.a).2 hk)
    · intro h e he hk
      obtain ⟨e0, he0, rfl⟩ := List.mem_map.1 he
      rw [closeFe_clo] at hk
      exact h e0 he0 ((closed_iff E f e0.b e0.a).1 hk)
  rw [hmap]
  constructor
  · intro h
    refine ⟨fun e he hk => h e he (.inl hk), fun hk => ?_, fun hk => ?_⟩
    · rcases hk.last with h1 | ⟨e, he, h1, h2⟩
      · exact hne h1.symm
      · exact h e he (.inr (.inl ⟨h2, h1⟩))
    · rcases hk.last with h1 | ⟨e, he, h1, h2⟩
      · exact hne h1
      · exact h e he (.inr (.inr ⟨h2, h1⟩))
  · rintro ⟨h1, h2, h3⟩ e he (h | ⟨h4, h5⟩ | ⟨h4, h5⟩)
    · exact h1 e he h
    · exact h2 ((h5.step he).trans h4)
    · exact h3 ((h5.step he).trans h4)
theorem acy_not_both (h : Acy E) (hne : f.a ≠ f.b) (h1 : Rch E f.a f.b) (h2 : Rch E f.b f.a) : False := by
  rcases h1.last with h3 | ⟨e, he, h3, h4⟩
  · exact hne h3
  · exact h e he ((h4.trans h2).trans h3)

theorem cyc_cons : Cyc (f :: E) ↔ Rch E f.b f.a ∧ ∀ e ∈ E, Rch E e.b e.a ∨ (Rch E e.b f.a ∧ Rch E f.b e.a) := by
  unfold Cyc
  constructor
  · intro h
    refine ⟨?_, fun e he => Rch.cons_iff.1 (h e (List.mem_cons_of_mem _ he))⟩
    rcases Rch.cons_iff.1 (h f List.mem_cons_self) with h | ⟨h, _⟩ <;> exact h
  · rintro ⟨h1, h2⟩ e he
    rcases List.mem_cons.1 he with rfl | he
    · exact h1.cons
    · exact Rch.cons_iff.2 (h2 e he)
theorem cyc_closed : Cyc (E.map (closeFe f)) ↔ ∀ e ∈ E, Both E f e.b e.a := by
  unfold Cyc
  constructor
  · intro h e he
    have := h (closeFe f e) (List.mem_map_of_mem he)
    rw [closeFe_clo] at this
    exact (closed_iff E f e.b e.a).1 this
  · intro h e he
    obtain ⟨e0, he0, rfl⟩ := List.mem_map.1 he
    rw [closeFe_clo]
    exact (closed_iff E f e0.b e0.a).2 (h e0 he0)
theorem cyc_loop (h : f.b = f.a) : Cyc (f :: E) ↔ Cyc E := by
  rw [cyc_cons]
  constructor
  · rintro ⟨_, h2⟩ e he
    rcases h2 e he with h3 | ⟨h3, h4⟩
    · exact h3
    · rw [h] at h4; exact h3.trans h4
  · intro hc
    exact ⟨h ▸ Rch.refl _ _, fun e he => .inl (hc e he)⟩
end

/-- Fences to be passed both ways. -/
def und (l : List Fe) : List Fe := l.flatMap fun f => [f, f.flip]
theorem mem_und {l : List Fe} {g : Fe} : g ∈ und l ↔ g ∈ l ∨ g.flip ∈ l := by
  unfold und
  rw [List.mem_flatMap]
  constructor
  · rintro ⟨f, hf, hg⟩
    simp at hg
    rcases hg with rfl | rfl
    · exact .inl hf
    · exact .inr hf
  · rintro (h | h)
    · exact ⟨g, h, by simp⟩
    · exact ⟨g.flip, h, by simp [flip_flip]⟩
/-- Two posts hang together. -/
def Con (l : List Fe) (u v : Int) : Prop := Rch (und l) u v
theorem Con.symm {l : List Fe} {u v : Int} (h : Con l u v) : Con l v u := by
  refine h (fun z => Con l z u) (Rch.refl _ _) fun g hg hz => ?_
  have : g.flip ∈ und l := mem_und.2 ((mem_und.1 hg).symm.imp id fun h => by rw [flip_flip]; exact h)
  exact (Rch.edge this).trans hz
theorem Con.cons_iff {l : List Fe} {f : Fe} {x y : Int} : Con (f :: l) x y ↔ Both (und l) f x y := by
  rw [← both_iff]
  rfl
/-- What is directed hangs together. -/
theorem Con.of_rch {l E : List Fe} {u v : Int} (h : Rch E u v) (hE : ∀ e ∈ E, e ∈ und l) : Con l u v := h.mono hE
theorem cyc_con {l E : List Fe} (h : Cyc E) (hl : ∀ g ∈ l, g ∈ E ∨ g.flip ∈ E) {u v : Int} (hc : Con l u v) : Rch E u v := by
  refine hc (fun z => Rch E u z) (Rch.refl _ _) fun g hg hz => hz.trans ?_
  have key : ∀ g : Fe, g ∈ E ∨ g.flip ∈ E → Rch E g.a g.b := fun g hg => by
    rcases hg with hg | hg
    · exact Rch.edge hg
    · exact h _ hg
  rcases mem_und.1 hg with h1 | h1
  · exact key g (hl g h1)
  · have := hl _ h1
    rw [flip_flip] at this
    exact key g this.symm

open Classical in
/-- 1 or 0. -/
noncomputable def ind (p : Prop) : Nat := if p then 1 else 0
theorem ind_yes {p : Prop} (h : p) : ind p = 1 := by unfold ind; rw [if_pos h]
theorem ind_no {p : Prop} (h : ¬ p) : ind p = 0 := by unfold ind; rw [if_neg h]
theorem ind_iff {p q : Prop} (h : p ↔ q) : ind p = ind q := by
  by_cases hp : p
  · rw [ind_yes hp, ind_yes (h.1 hp)]
  · rw [ind_no hp, ind_no fun hq => hp (h.2 hq)]

theorem acy_sum {E : List Fe} {f : Fe} (hne : f.a ≠ f.b) : ind (Acy (f :: E)) + ind (Acy (f.flip :: E)) = ind (Acy E) + ind (Acy (E.map (closeFe f))) := by
  rw [ind_iff acy_cons, ind_iff (acy_cons (f := f.flip)), ind_iff (acy_closed hne)]
  show ind (Acy E ∧ ¬ Rch E f.b f.a) + ind (Acy E ∧ ¬ Rch E f.a f.b) = _
  by_cases h : Acy E
  · by_cases h1 : Rch E f.b f.a
    · by_cases h2 : Rch E f.a f.b
      · exact (acy_not_both h hne h2 h1).elim
      · rw [ind_no (by simp [h1]), ind_yes ⟨h, h2⟩, ind_yes h, ind_no (by simp [h1])]
    · by_cases h2 : Rch E f.a f.b
      · rw [ind_yes ⟨h, h1⟩, ind_no (by simp [h2]), ind_yes h, ind_no (by simp [h2])]
      · rw [ind_yes ⟨h, h1⟩, ind_yes ⟨h, h2⟩, ind_yes h, ind_yes ⟨h, h1, h2⟩]
  · rw [ind_no (by simp [h]), ind_no (by simp [h]), ind_no h, ind_no (by simp [h])]
theorem acy_bridge {E : List Fe} {f : Fe} (hne : f.a ≠ f.b) (h1 : ¬ Rch E f.b f.a) (h2 : ¬ Rch E f.a f.b) : ind (Acy (E.map (closeFe f))) = ind (Acy E) := by
  rw [ind_iff (acy_closed hne)]
  exact ind_iff ⟨fun h => h.1, fun h => ⟨h, h1, h2⟩⟩
theorem cyc_sum {l E : List Fe} {f : Fe} (hl : ∀ g ∈ l, g ∈ E ∨ g.flip ∈ E) (hc : Con l f.a f.b) :
    ind (Cyc (f :: E)) + ind (Cyc (f.flip :: E)) = ind (Cyc E) + ind (Cyc (E.map (closeFe f))) := by
  rw [ind_iff cyc_cons, ind_iff (cyc_cons (f := f.flip)), ind_iff (cyc_closed (f := f))]
  show ind (Rch E f.b f.a ∧ ∀ e ∈ E, Rch E e.b e.a ∨ (Rch E e.b f.a ∧ Rch E f.b e.a)) + ind (Rch E f.a f.b ∧ ∀ e ∈ E, Rch E e.b e.a ∨ (Rch E e.b f.b ∧ Rch E f.a e.a)) = _
  by_cases h : Cyc E
  · have h1 := cyc_con h hl hc
    have h2 := cyc_con h hl hc.symm
    rw [ind_yes ⟨h2, fun e he => .inl (h e he)⟩, ind_yes ⟨h1, fun e he => .inl (h e he)⟩, ind_yes h, ind_yes fun e he => .inl (h e he)]
  · rw [ind_no h]
    by_cases h' : ∀ e ∈ E, Both E f e.b e.a
    · rw [ind_yes h']
      obtain ⟨e0, he0, hn⟩ : ∃ e ∈ E, ¬ Rch E e.b e.a := by
        apply Classical.byContradiction
        intro hno
        exact h fun e he => Classical.byContradiction fun hk => hno ⟨e, he, hk⟩
      rcases h' e0 he0 with h1 | ⟨h1, h2⟩ | ⟨h1, h2⟩
      · exact (hn h1).elim
      · have hba : Rch E f.b f.a := (h2.step he0).trans h1
        rw [ind_yes ⟨hba, fun e he => by
          rcases h' e he with h3 | h3 | ⟨h3, h4⟩
          · exact .inl h3
          · exact .inr h3
          · exact .inl ((h3.trans hba).trans h4)⟩, ind_no]
        rintro ⟨h3, h4⟩
        rcases h4 e0 he0 with h5 | ⟨h5, h6⟩
        · exact hn h5
        · exact hn ((h5.trans hba).trans h6)
      · have hab : Rch E f.a f.b := (h2.step he0).trans h1
        rw [Nat.add_comm, ind_yes (p := Rch E f.a f.b ∧ _) ⟨hab, fun e he => by
          rcases h' e he with h3 | ⟨h3, h4⟩ | h3
          · exact .inl h3
          · exact .inl ((h3.trans hab).trans h4)
          · exact .inr h3⟩, ind_no]
        rintro ⟨h3, h4⟩
        rcases h4 e0 he0 with h5 | ⟨h5, h6⟩
        · exact hn h5
        · exact hn ((h5.trans hab).trans h6)
    · rw [ind_no h', ind_no, ind_no]
      · rintro ⟨_, h2⟩
        exact h' fun e he => (h2 e he).imp id fun h => .inr h
      · rintro ⟨_, h2⟩
        exact h' fun e he => (h2 e he).imp id fun h => .inl h

/-- How many ways to direct fences meet a condition. -/
noncomputable def cntO (P : List Fe → Prop) : List Fe → Nat
  | [] => ind (P [])
  | f :: r => cntO (fun E => P (f :: E)) r + cntO (fun E => P (f.flip :: E)) r
/-- A list of fences in some directions. -/
def OrOf : List Fe → List Fe → Prop
  | [], E => E = []
  | f :: r, E => ∃ E', OrOf r E' ∧ (E = f :: E' ∨ E = f.flip :: E')
theorem cntO_congr {l : List Fe} {P Q : List Fe → Prop} (h : ∀ E, OrOf l E → (P E ↔ Q E)) : cntO P l = cntO Q l := by
  induction l generalizing P Q with
  | nil => exact ind_iff (h [] rfl)
  | cons f r ih =>
    rw [cntO, cntO, ih fun E hE => h _ ⟨E, hE, .inl rfl⟩, ih fun E hE => h _ ⟨E, hE, .inr rfl⟩]
theorem cntO_add {l : List Fe} {P Q R S : List Fe → Prop} (h : ∀ E, OrOf l E → ind (P E) + ind (Q E) = ind (R E) + ind (S E)) : cntO P l + cntO Q l = cntO R l + cntO S l := by
  induction l generalizing P Q R S with
  | nil => exact h [] rfl
  | cons f r ih =>
    have h1 := ih (P := fun E => P (f :: E)) (Q := fun E => Q (f :: E)) (R := fun E => R (f :: E)) (S := fun E => S (f :: E)) fun E hE => h _ ⟨E, hE, .inl rfl⟩
    have h2 := ih (P := fun E => P (f.flip :: E)) (Q := fun E => Q (f.flip :: E)) (R := fun E => R (f.flip :: E)) (S := fun E => S (f.flip :: E)) fun E hE => h _ ⟨E, hE, .inr rfl⟩
    simp only [cntO]
    omega
theorem cntO_no {l : List Fe} {P : List Fe → Prop} (h : ∀ E, OrOf l E → ¬ P E) : cntO P l = 0 := by
  induction l generalizing P with
  | nil => exact ind_no (h [] rfl)
  | cons f r ih => rw [cntO, ih fun E hE => h _ ⟨E, hE, .inl rfl⟩, ih fun E hE => h _ ⟨E, hE, .inr rfl⟩]
theorem cntO_map (f : Fe) {l : List Fe} {P : List Fe → Prop} : cntO P (l.map (closeFe f)) = cntO (fun E => P (E.map (closeFe f))) l := by
  induction l generalizing P with
  | nil => rfl
  | cons g r ih =>
    rw [List.map_cons, cntO, cntO, ih, ih]
    rfl
theorem OrOf.mem {l E : List Fe} (h : OrOf l E) : (∀ e ∈ E, e ∈ und l) ∧ ∀ g ∈ l, g ∈ E ∨ g.flip ∈ E := by
  induction l generalizing E with
  | nil =>
    have : E = [] := h
    subst this
    exact ⟨fun e he => by simp at he, fun e he => by simp at he⟩
  | cons f r ih =>
    obtain ⟨E', hE', h1⟩ := h
    obtain ⟨i1, i2⟩ := ih hE'
    constructor
    · intro e he
      rw [mem_und]
      rcases h1 with rfl | rfl
      · rcases List.mem_cons.1 he with rfl | he
        · exact .inl (by simp)
        · exact (mem_und.1 (i1 e he)).imp (List.mem_cons_of_mem _) (List.mem_cons_of_mem _)
      · rcases List.mem_cons.1 he with rfl | he
        · exact .inr (by simp [flip_flip])
        · exact (mem_und.1 (i1 e he)).imp (List.mem_cons_of_mem _) (List.mem_cons_of_mem _)
    · intro g hg
      rcases List.mem_cons.1 hg with rfl | hg
      · rcases h1 with rfl | rfl
        · exact .inl (by simp)
        · exact .inr (by simp)
      · rcases h1 with rfl | rfl
        · exact (i2 g hg).imp (List.mem_cons_of_mem _) (List.mem_cons_of_mem _)
        · exact (i2 g hg).imp (List.mem_cons_of_mem _) (List.mem_cons_of_mem _)

theorem acy_loop_cnt {f : Fe} {r : List Fe} (h : f.b = f.a) : cntO Acy (f :: r) = 0 := by
  refine cntO_no fun E hE hA => ?_
  obtain ⟨E', _, rfl | rfl⟩ := hE
  · exact hA f (by simp) (h ▸ Rch.refl _ _)
  · refine hA f.flip (by simp) ?_
    show Rch _ f.a f.b
    rw [h]; exact Rch.refl _ _
theorem cyc_loop_cnt {f : Fe} {r : List Fe} (h : f.b = f.a) : cntO Cyc (f :: r) = 2 * cntO Cyc r := by
  rw [cntO, cntO_congr (Q := Cyc) fun E _ => cyc_loop h, cntO_congr (P := fun E => Cyc (f.flip :: E)) (Q := Cyc) fun E _ => cyc_loop (f := f.flip) h.symm]
  omega
theorem acy_cnt {f : Fe} {r : List Fe} (h : f.b ≠ f.a) : cntO Acy (f :: r) = cntO Acy r + cntO Acy (r.map (closeFe f)) := by
  rw [cntO, cntO_map]
  exact cntO_add fun E _ => acy_sum (Ne.symm h)
theorem acy_bridge_cnt {f : Fe} {r : List Fe} (h : f.b ≠ f.a) (hc : ¬ Con r f.a f.b) : cntO Acy (f :: r) = 2 * cntO Acy (r.map (closeFe f)) := by
  have e : cntO Acy (r.map (closeFe f)) = cntO Acy r := by
    rw [cntO_map]
    refine cntO_congr fun E hE => ?_
    rw [acy_closed (Ne.symm h)]
    exact ⟨fun h => h.1, fun h => ⟨h, fun hk => hc (Con.of_rch hk hE.mem.1).symm, fun hk => hc (Con.of_rch hk hE.mem.1)⟩⟩
  rw [acy_cnt h, e]
  omega
theorem cyc_bridge_cnt {f : Fe} {r : List Fe} (hc : ¬ Con r f.a f.b) : cntO Cyc (f :: r) = 0 := by
  refine cntO_no fun E hE hA => ?_
  obtain ⟨E', hE', rfl | rfl⟩ := hE
  · exact hc (Con.of_rch (cyc_cons.1 hA).1 hE'.mem.1).symm
  · exact hc (Con.of_rch (cyc_cons.1 hA).1 hE'.mem.1)
theorem cyc_cnt {f : Fe} {r : List Fe} (hc : Con r f.a f.b) : cntO Cyc (f :: r) = cntO Cyc r + cntO Cyc (r.map (closeFe f)) := by
  rw [cntO, cntO_map]
  exact cntO_add fun E hE => cyc_sum hE.mem.2 hc
end Go.Proofs.Ytmmpdfcnenljhaa
