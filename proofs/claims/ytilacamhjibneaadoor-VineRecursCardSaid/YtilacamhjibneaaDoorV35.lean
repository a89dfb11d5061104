/- The table of At, in memory. Its conditions are its premises. -/
import Derived.Test.YtilacamhjibneaaDoorV34
set_option linter.unusedVariables false
namespace Go.Proofs.YtilacamhjibneaaDoor
open Go.RowKit

/-- The table so far. -/
structure LT (w0 w : World) (tb N : Nat) (V : List (List Nat)) (G : List (Nat × Nat)) : Prop where
  outer : Blk w tb 90 (outG V.length N G)
  rows : ∀ y (h : y < G.length), RowAt w G[y].1 (tab V y) ∧ G[y].1 ≠ tb ∧ G[y].1 < w.heap.size
  chg : Chg (fun _ => False) w0 w
  otb : w0.heap.size ≤ tb
/-- .. and the row that is being made. -/
structure LP (w0 w : World) (tb N : Nat) (V : List (List Nat)) (G : List (Nat × Nat)) (rb : Nat) (R : List Nat) : Prop where
  outer : Blk w tb 90 (outG V.length N (G ++ [(rb, V.length)]))
  rows : ∀ y (h : y < G.length), RowAt w G[y].1 (tab V y) ∧ G[y].1 ≠ tb ∧ G[y].1 ≠ rb ∧ G[y].1 < w.heap.size
  row : Blk w rb 88 (uv R)
  ne : rb ≠ tb
  chg : Chg (fun _ => False) w0 w
  otb : w0.heap.size ≤ tb
  orb : w0.heap.size ≤ rb
theorem LT.open_ {w0 w : World} {tb N : Nat} {V : List (List Nat)} {G : List (Nat × Nat)} (h : LT w0 w tb N V G) (hlt : G.length < N) :
    LP w0 ((w.alloc (.cells (Array.replicate V.length (.int .u64 0)) 88)).setCell ⟨tb, G.length, none⟩ (.slice (some ⟨w.heap.size, 0, none⟩) V.length V.length)) tb N V G w.heap.size (List.replicate V.length 0) := by
  have hcb := h.outer.lt
  have hc : Chg (fun k => k = tb) w ((w.alloc (.cells (Array.replicate V.length (.int .u64 0)) 88)).setCell ⟨tb, G.length, none⟩ (.slice (some ⟨w.heap.size, 0, none⟩) V.length V.length)) := ((Chg.refl (fun k => k = tb) w).alloc _).setCell (a := ⟨tb, G.length, none⟩) (.inl rfl) _
  refine ⟨?_, fun y hy => ?_, (made_row V.length w).setOther (a := ⟨tb, G.length, none⟩) (by show tb ≠ w.heap.size; omega) _, by omega, h.chg.trans hc (fun k hk => .inr (by rw [hk]; exact h.otb)), h.otb, h.chg.size⟩
  · have := (h.outer.alloc (.cells (Array.replicate V.length (.int .u64 0)) 88)).set G.length (gv V.length (w.heap.size, V.length))
    rw [outG_set _ hlt] at this
    exact this
  · obtain ⟨h1, h2, h3⟩ := h.rows y hy
    exact ⟨h1.chg hc h2, h2, by omega, Nat.lt_of_lt_of_le h3 hc.size⟩
theorem LP.close {w0 w : World} {tb N : Nat} {V : List (List Nat)} {G : List (Nat × Nat)} {rb : Nat} (h : LP w0 w tb N V G rb (tab V G.length)) : LT w0 w tb N V (G ++ [(rb, V.length)]) := by
  refine ⟨h.outer, fun y hy => ?_, h.chg, h.otb⟩
  by_cases hyl : y < G.length
  · rw [List.getElem_append_left hyl]
    obtain ⟨h1, h2, _, h3⟩ := h.rows y hyl
    exact ⟨h1, h2, h3⟩
  · obtain rfl : y = G.length := by simp at hy; omega
    have he : (G ++ [(rb, V.length)])[G.length]'hy = (rb, V.length) := by simp
    rw [he]
    exact ⟨row_of_blk h.row, h.ne, h.row.lt⟩
theorem LP.kept {w0 w w' : World} {tb N : Nat} {V : List (List Nat)} {G : List (Nat × Nat)} {rb : Nat} {R : List Nat} (h : LP w0 w tb N V G rb R) (hc : Chg (fun _ => False) w w') : LP w0 w' tb N V G rb R :=
  ⟨hc.blk h.outer (fun x => x), fun y hy => by
    obtain ⟨h1, h2, h3, h4⟩ := h.rows y hy
    exact ⟨h1.chg hc (fun x => x), h2, h3, Nat.lt_of_lt_of_le h4 hc.size⟩, hc.blk h.row (fun x => x), h.ne, h.chg.trans hc (fun _ x => x.elim), h.otb, h.orb⟩
theorem LP.set {w0 w : World} {tb N : Nat} {V : List (List Nat)} {G : List (Nat × Nat)} {rb : Nat} {R : List Nat} (h : LP w0 w tb N V G rb R) (i x : Nat) : LP w0 (w.setCell ⟨rb, i, none⟩ (.int .u64 (x : Int))) tb N V G rb (R.set i x) := by
  have hc : Chg (fun k => k = rb) w (w.setCell ⟨rb, i, none⟩ (.int .u64 (x : Int))) := (Chg.refl (fun k => k = rb) w).setCell (a := ⟨rb, i, none⟩) (.inl rfl) _
  exact ⟨h.outer.setOther (a := ⟨rb, i, none⟩) h.ne _, fun y hy => by
    obtain ⟨h1, h2, h3, h4⟩ := h.rows y hy
    exact ⟨h1.chg hc h3, h2, h3, Nat.lt_of_lt_of_le h4 hc.size⟩, by rw [uv_set]; exact h.row.set i _, h.ne, h.chg.setCell (.inr h.orb) _, h.otb, h.orb⟩
theorem LP.at_ {w0 w : World} {tb N : Nat} {V : List (List Nat)} {G : List (Nat × Nat)} {rb : Nat} {R : List Nat} (h : LP w0 w tb N V G rb R) : w.cell? ⟨tb, G.length, none⟩ = some (.slice (some ⟨rb, 0, none⟩) V.length V.length) := by
  have := h.outer.cell_some (outG_at (n := V.length) (N := N) (G := G ++ [(rb, V.length)]) (k := G.length) (by simp))
  rw [show (G ++ [(rb, V.length)])[G.length]'(by simp) = (rb, V.length) by simp] at this
  exact this
theorem LP.before {w0 w : World} {tb N : Nat} {V : List (List Nat)} {G : List (Nat × Nat)} {rb : Nat} {R : List Nat} (h : LP w0 w tb N V G rb R) {y : Nat} (hy : y < G.length) : ∃ g c, w.cell? ⟨tb, y, none⟩ = some (.slice (some ⟨g, 0, none⟩) V.length c) ∧ RowAt w g (tab V y) := by
  have := h.outer.cell_some (outG_at (n := V.length) (N := N) (G := G ++ [(rb, V.length)]) (k := y) (by simp; omega))
  rw [List.getElem_append_left hy] at this
  exact ⟨G[y].1, G[y].2, this, (h.rows y hy).1⟩
theorem LT.tab {w0 w : World} {tb N : Nat} {V : List (List Nat)} {G : List (Nat × Nat)} (h : LT w0 w tb N V G) {Y : Nat} (hY : Y < G.length) : TabAt w tb 0 V Y := fun y hy => by
  have := h.outer.cell_some (outG_at (n := V.length) (N := N) (G := G) (k := y) (by omega))
  refine ⟨G[y].1, G[y].2, ?_, (h.rows y (by omega)).1⟩
  rw [Nat.zero_add]
  exact this
theorem make_tab (N : Nat) (hN : N ≤ 2000) (w : World) : (Instr.makeSlice 86 (.int .i64 N) (.int .i64 N)).run Tryd.prog w = .ok (.slice (some ⟨w.heap.size, 0, none⟩) N N) (w.alloc (.cells (Array.replicate N (.slice none 0 0)) 90)) := by
  obtain ⟨i0, hi0, hz0, hz1, hz2⟩ := info_parts info90
  have := run_make (P := Tryd.prog) w 86 90 i0 _ Tryd.underlying86 hi0 hz0 .i64 .i64 N N (by omega) (by omega) (by rw [hz2]; omega) (by omega)
  rw [this, hz1, Nat.mul_one, show (Value.slice none 0 0).cells = #[Value.slice none 0 0] from rfl, madeCells_one]
  rfl
theorem made_tab (N : Nat) (V : List (List Nat)) (w : World) : LT w (w.alloc (.cells (Array.replicate N (.slice none 0 0)) 90)) w.heap.size N V [] := by
  have := Blk.new w (Array.replicate N (.slice none 0 0)) 90
  exact ⟨by unfold outG; simpa [nilS] using this, fun y hy => by simp at hy, (Chg.refl _ w).alloc _, Nat.le_refl _⟩
end Go.Proofs.YtilacamhjibneaaDoor
