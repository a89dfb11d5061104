/- One span of a row rewritten in place. No condition. -/
import Derived.Test.YtgamekcjjpjnnaaM12
import Derived.Test.YtgamekcjjpjnnaaA34
set_option linter.unusedVariables false
namespace Go.Proofs.Ytgamekcjjpjnnaa
open Go.RowKit

theorem spans_set {W : World} {g : Nat} {l : List Sp} {I : Nat} {x y : Int} (h : SpansAt W g 0 l) (hI : I < l.length) :
    SpansAt ((W.setCell ⟨g, I * 4 + 2, none⟩ (.int .i64 x)).setCell ⟨g, I * 4 + 3, none⟩ (.int .i64 y)) g 0 (l.set I ⟨l[I].src, l[I].dst, x, y⟩) := by
  have other : ∀ o v, o ≠ I * 4 + 2 → o ≠ I * 4 + 3 → W.cell? ⟨g, o, none⟩ = some v → ((W.setCell ⟨g, I * 4 + 2, none⟩ (.int .i64 x)).setCell ⟨g, I * 4 + 3, none⟩ (.int .i64 y)).cell? ⟨g, o, none⟩ = some v := fun o v h1 h2 hv => by
    exact (World.cell?_setCell_other _ ⟨g, I * 4 + 3, none⟩ ⟨g, o, none⟩ _ (by intro h; injection h with _ h _; exact h2 h.symm)).trans ((World.cell?_setCell_other _ ⟨g, I * 4 + 2, none⟩ ⟨g, o, none⟩ _ (by intro h; injection h with _ h _; exact h1 h.symm)).trans hv)
  obtain ⟨i0, i1, i2, i3⟩ := h I hI
  simp only [Nat.zero_add] at i0 i1 i2 i3
  intro k hk
  have hk' : k < l.length := by simpa using hk
  obtain ⟨c0, c1, c2, c3⟩ := h k hk'
  simp only [Nat.zero_add] at c0 c1 c2 c3 ⊢
  rw [List.getElem_set]
  by_cases hkI : I = k
  · subst hkI
    rw [if_pos rfl]
    have e2 : (W.setCell ⟨g, I * 4 + 2, none⟩ (.int .i64 x)).cell? ⟨g, I * 4 + 3, none⟩ = some (.int .i64 l[I].hi) := by
      exact (World.cell?_setCell_other _ ⟨g, I * 4 + 2, none⟩ ⟨g, I * 4 + 3, none⟩ _ (by intro h; injection h with _ h _; omega)).trans c3
    refine ⟨other _ _ (by omega) (by omega) c0, other _ _ (by omega) (by omega) c1, ?_, World.cell?_setCell_same _ _ _ e2⟩
    exact (World.cell?_setCell_other _ ⟨g, I * 4 + 3, none⟩ ⟨g, I * 4 + 2, none⟩ _ (by intro h; injection h with _ h _; omega)).trans (World.cell?_setCell_same _ _ _ c2)
  · rw [if_neg hkI]
    exact ⟨other _ _ (by omega) (by omega) c0, other _ _ (by omega) (by omega) c1, other _ _ (by omega) (by omega) c2, other _ _ (by omega) (by omega) c3⟩

/-- What an owned row of spans gives. -/
theorem owns_spans_free {w : World} {base : Nat} {v : Value} {n : Nat} {xs : List Value} (h : w.ownsRow base 32 4 v n xs) (hn : 0 < n) : ∃ g c, v = .slice (some ⟨g, 0, none⟩) n c ∧ base ≤ g ∧ g < w.heap.size ∧ (∀ o, w.frozen? ⟨g, o, none⟩ = false) ∧ n ≤ c := by
  rcases h.2 with ⟨_, h0⟩ | ⟨g, c, cur, rfl, hb, hg, hnc, _⟩
  · omega
  · exact ⟨g, c, rfl, hb, (Array.getElem?_eq_some_iff.1 hg).1, fun o => by simp [World.frozen?, hg], hnc⟩
end Go.Proofs.Ytgamekcjjpjnnaa
