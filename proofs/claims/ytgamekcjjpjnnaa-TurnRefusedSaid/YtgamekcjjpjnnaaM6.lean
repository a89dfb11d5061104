/- Groups of events, as labels that are merged: plain facts. No program. -/
import Derived.Test.YtgamekcjjpjnnaaM4
set_option linter.unusedVariables false
namespace Go.Proofs.Ytgamekcjjpjnnaa

def initG (N : Nat) : List Int := (List.range N).map fun (i : Nat) => (i : Int)
def mergeG (G : List Int) (old new : Int) : List Int := G.map fun x => if x = old then new else x
/-- One span's step: the label of its end becomes that of its beginning, or the other way round. -/
def grpStep (back : Bool) (st : List Int × Int) (s : Sp) : List Int × Int :=
  if hr st.1 s.src.toNat = hr st.1 s.dst.toNat then st
  else (if back then mergeG st.1 (hr st.1 s.src.toNat) (hr st.1 s.dst.toNat) else mergeG st.1 (hr st.1 s.dst.toNat) (hr st.1 s.src.toNat), st.2 - 1)
def grps (back : Bool) (N : Nat) (l : List Sp) : List Int × Int := l.foldl (grpStep back) (initG N, (N : Int))

theorem hr_lt {G : List Int} {i : Nat} (h : i < G.length) : hr G i = G[i] := by unfold hr; rw [List.getD_eq_getElem?_getD, List.getElem?_eq_getElem h]; rfl
theorem initG_len (N : Nat) : (initG N).length = N := by simp [initG]
theorem initG_hr {N i : Nat} (h : i < N) : hr (initG N) i = i := by rw [hr_lt (by rw [initG_len]; exact h)]; simp [initG]
theorem mergeG_len (G : List Int) (a b : Int) : (mergeG G a b).length = G.length := by simp [mergeG]
theorem mergeG_hr {G : List Int} {a b : Int} {i : Nat} (h : i < G.length) : hr (mergeG G a b) i = if hr G i = a then b else hr G i := by
  rw [hr_lt (by rw [mergeG_len]; exact h), hr_lt h]; simp [mergeG]
theorem ext_hr {G H : List Int} (h : G.length = H.length) (h2 : ∀ i, i < G.length → hr G i = hr H i) : G = H :=
  List.ext_getElem h fun i h1 h3 => by have := h2 i h1; rwa [hr_lt h1, hr_lt h3] at this

/-- The same events together. -/
def SameK (G H : List Int) : Prop := G.length = H.length ∧ ∀ i j, i < G.length → j < G.length → (hr G i = hr G j ↔ hr H i = hr H j)

theorem SameK.step {G H : List Int} {m : Int} (h : SameK G H) {s : Sp} (h1 : s.src.toNat < G.length) (h2 : s.dst.toNat < G.length) :
    SameK (grpStep true (G, m) s).1 (grpStep false (H, m) s).1 ∧ (grpStep true (G, m) s).2 = (grpStep false (H, m) s).2 := by
  obtain ⟨hl, hk⟩ := h
  unfold grpStep
  dsimp only
  by_cases he : hr G s.src.toNat = hr G s.dst.toNat
  · rw [if_pos he, if_pos ((hk _ _ h1 h2).1 he)]
    exact ⟨⟨hl, hk⟩, rfl⟩
  · rw [if_neg he, if_neg (fun h => he ((hk _ _ h1 h2).2 h))]
    refine ⟨⟨by simp [mergeG_len, hl], fun i j hi hj => ?_⟩, rfl⟩
    simp only [if_true, mergeG_len] at hi hj
    simp only [if_true, Bool.false_eq_true, if_false]
    rw [mergeG_hr hi, mergeG_hr hj, mergeG_hr (by omega), mergeG_hr (by omega)]
    have a1 := hk i s.src.toNat hi h1
    have a2 := hk i s.dst.toNat hi h2
    have a3 := hk j s.src.toNat hj h1
    have a4 := hk j s.dst.toNat hj h2
    have a5 := hk i j hi hj
    have a6 := hk _ _ h1 h2
    by_cases b1 : hr G i = hr G s.src.toNat <;> by_cases b2 : hr G i = hr G s.dst.toNat <;> by_cases b3 : hr G j = hr G s.src.toNat <;> by_cases b4 : hr G j = hr G s.dst.toNat <;>
      simp only [b1, b2, b3, b4, a1.1, a2.1, a3.1, a4.1, if_true, if_false] <;> (try simp_all) <;> (try omega)

theorem grpStep_len (b : Bool) (st : List Int × Int) (s : Sp) : (grpStep b st s).1.length = st.1.length := by
  unfold grpStep
  split
  · rfl
  · cases b <;> simp [mergeG_len]

theorem foldl_same (l : List Sp) : ∀ (G H : List Int) (m : Int), SameK G H → (∀ s ∈ l, s.src.toNat < G.length ∧ s.dst.toNat < G.length) → (l.foldl (grpStep true) (G, m)).2 = (l.foldl (grpStep false) (H, m)).2 := by
  induction l with
  | nil => intro G H m _ _; rfl
  | cons s l ih =>
    intro G H m h hs
    have h1 := h.step (m := m) (hs s (by simp)).1 (hs s (by simp)).2
    have hlen := grpStep_len true (G, m) s
    simp only [List.foldl_cons]
    obtain ⟨G', m', hG⟩ : ∃ G' m', grpStep true (G, m) s = (G', m') := ⟨_, _, rfl⟩
    obtain ⟨H', m'', hH⟩ : ∃ H' m'', grpStep false (H, m) s = (H', m'') := ⟨_, _, rfl⟩
    rw [hG, hH] at h1
    rw [hG] at hlen
    rw [hG, hH]
    dsimp only at h1 hlen
    rw [← h1.2]
    exact ih G' H' m' h1.1 fun x hx => by rw [hlen]; exact hs x (by simp [hx])

theorem grps_same {N : Nat} {l : List Sp} (hs : ∀ s ∈ l, s.src.toNat < N ∧ s.dst.toNat < N) : (grps true N l).2 = (grps false N l).2 :=
  foldl_same l _ _ _ ⟨rfl, fun _ _ _ _ => Iff.rfl⟩ (by rw [initG_len]; exact hs)

theorem foldl_low (b : Bool) (l : List Sp) : ∀ st : List Int × Int, st.2 - l.length ≤ (l.foldl (grpStep b) st).2 ∧ (l.foldl (grpStep b) st).2 ≤ st.2 := by
  induction l with
  | nil => intro st; simp
  | cons s l ih =>
    intro st
    have h := ih (grpStep b st s)
    have h2 : st.2 - 1 ≤ (grpStep b st s).2 ∧ (grpStep b st s).2 ≤ st.2 := by
      unfold grpStep
      split
      · omega
      · dsimp only; omega
    simp only [List.foldl_cons, List.length_cons]
    omega
theorem foldl_len (b : Bool) (l : List Sp) : ∀ st : List Int × Int, (l.foldl (grpStep b) st).1.length = st.1.length := by
  induction l with
  | nil => intro st; rfl
  | cons s l ih => intro st; simp only [List.foldl_cons]; rw [ih, grpStep_len]

/-- What Free answers. -/
def freeE (t n : Int) (l : List Sp) : Int × Int := if spansE t n l ≠ 0 then (0, spansE t n l) else ((l.length : Int) - n + (grps false n.toNat l).2, 0)
theorem freeE_err {t n : Int} {l : List Sp} (h : spansE t n l ≠ 0) : freeE t n l = (0, spansE t n l) := by unfold freeE; rw [if_pos h]
theorem freeE_ok {t n : Int} {l : List Sp} (h : spansE t n l = 0) : freeE t n l = ((l.length : Int) - n + (grps false n.toNat l).2, 0) := by unfold freeE; rw [if_neg (by simpa using h)]
end Go.Proofs.Ytgamekcjjpjnnaa
