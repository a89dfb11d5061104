/- Matrices of whole numbers in memory. Their conditions are their premises. -/
import Derived.Test.YtilacamhjibneaaDoorV19
set_option linter.unusedVariables false
namespace Go
theorem QueB.set1 {w : World} {g o c n : Nat} {cs : List Value} (h : QueB w 1 g o c n cs) {j : Nat} (hj : j < n) (v : Value) : QueB (w.setCell ⟨g, o + j, none⟩ v) 1 g o c n (cs.set j v) := by
  have hle := h.le
  have hlen := h.len
  have hfree : ∀ k, (w.setCell ⟨g, o + j, none⟩ v).frozen? ⟨g, k, none⟩ = w.frozen? ⟨g, k, none⟩ := fun k => by
    simp [World.setCell, World.frozen?, Array.getElem?_modify]
    cases w.heap[g]? with
    | none => rfl
    | some o => cases o <;> rfl
  have hsome := h.there j (by omega)
  refine ⟨by simpa [World.setCell] using h.lt, h.le, by rw [List.length_set]; exact h.len, fun k u hk => ?_, fun k hk => ?_, fun k => by rw [hfree]; exact h.free k⟩
  · rw [List.getElem?_set] at hk
    by_cases hjk : j = k
    · subst hjk
      rw [if_pos rfl] at hk
      split at hk
      · cases hk
        obtain ⟨u0, hu0⟩ := Option.isSome_iff_exists.1 hsome
        exact World.cell?_setCell_same _ _ _ hu0
      · cases hk
    · rw [if_neg hjk] at hk
      rw [World.cell?_setCell_other _ _ _ _ (by intro e; injection e with _ e2; omega)]
      exact h.at_ k u hk
  · by_cases hjk : j = k
    · subst hjk
      obtain ⟨u0, hu0⟩ := Option.isSome_iff_exists.1 hsome
      rw [World.cell?_setCell_same _ _ _ hu0]
      rfl
    · rw [World.cell?_setCell_other _ _ _ _ (by intro e; injection e with _ e2; omega)]
      exact h.there k hk
end Go
namespace Go.Proofs.YtilacamhjibneaaDoor
open Go.RowKit

def row (A : List (List Int)) (i : Nat) : List Int := A[i]?.getD []
def ent (A : List (List Int)) (i j : Nat) : Int := (row A i)[j]?.getD 0
def ivL (l : List Int) : List Value := l.map fun x => .int .i64 x
def gv (n : Nat) (g : Nat × Nat) : Value := .slice (some ⟨g.1, 0, none⟩) n g.2
def outG (n N : Nat) (G : List (Nat × Nat)) : List Value := G.map (gv n) ++ List.replicate (N - G.length) nilS
theorem ivL_len (l : List Int) : (ivL l).length = l.length := by simp [ivL]
theorem ivL_set (l : List Int) (i : Nat) (x : Int) : ivL (l.set i x) = (ivL l).set i (.int .i64 x) := by
  unfold ivL
  rw [List.map_set]
theorem outG_at {n N : Nat} {G : List (Nat × Nat)} {k : Nat} (h : k < G.length) : (outG n N G)[k]? = some (gv n G[k]) := by
  unfold outG
  rw [List.getElem?_append_left (by simpa using h), List.getElem?_map, List.getElem?_eq_getElem h]
  rfl
theorem outG_next {n N : Nat} {G : List (Nat × Nat)} (h : G.length < N) : (outG n N G)[G.length]? = some nilS := by
  unfold outG
  rw [List.getElem?_append_right (by simp), List.getElem?_replicate, if_pos (by simp; omega)]
theorem outG_set {n N : Nat} {G : List (Nat × Nat)} (g : Nat × Nat) (h : G.length < N) : (outG n N G).set G.length (gv n g) = outG n N (G ++ [g]) := by
  unfold outG
  rw [List.set_append_right _ _ (by simp), List.length_map, Nat.sub_self]
  obtain ⟨m, hm⟩ : ∃ m, N - G.length = m + 1 := ⟨N - G.length - 1, by omega⟩
  rw [hm, List.replicate_succ, List.map_append, List.length_append, List.length_singleton, show N - (G.length + 1) = m by omega]
  simp

/-- A matrix: the rows of the blocks G. -/
structure IM (w0 w : World) (cb n N : Nat) (A : List (List Int)) (G : List (Nat × Nat)) : Prop where
  len : A.length = G.length
  le : G.length ≤ N
  outer : Blk w cb 29 (outG n N G)
  rows : ∀ k (h : k < G.length), QueB w 1 G[k].1 0 G[k].2 n (ivL (row A k))
  ne : ∀ k (h : k < G.length), G[k].1 ≠ cb
  inj : ∀ j k (hj : j < G.length) (hk : k < G.length), G[j].1 = G[k].1 → j = k
  chg : Chg (fun _ => False) w0 w
  ocb : w0.heap.size ≤ cb
  og : ∀ k (h : k < G.length), w0.heap.size ≤ G[k].1
namespace IM
variable {w0 w w' : World} {cb n N : Nat} {A : List (List Int)} {G : List (Nat × Nat)}
theorem row_len (h : IM w0 w cb n N A G) {k : Nat} (hk : k < G.length) : (row A k).length = n := by
  have := (h.rows k hk).len
  rw [ivL_len] at this
  omega
theorem outer_at (h : IM w0 w cb n N A G) {k : Nat} (hk : k < G.length) : w.cell? ⟨cb, k, none⟩ = some (.slice (some ⟨G[k].1, 0, none⟩) n G[k].2) := h.outer.cell_some (outG_at hk)
theorem outer_nil (h : IM w0 w cb n N A G) (hk : G.length < N) : w.cell? ⟨cb, G.length, none⟩ = some nilS := h.outer.cell_some (outG_next hk)
theorem ent_at (h : IM w0 w cb n N A G) {k j : Nat} (hk : k < G.length) (hj : j < n) : w.cell? ⟨G[k].1, j, none⟩ = some (.int .i64 (ent A k j)) := by
  have hl := h.row_len hk
  have := (h.rows k hk).at_ j (.int .i64 (ent A k j)) (by
    unfold ivL ent
    rw [List.getElem?_map, List.getElem?_eq_getElem (by omega)]
    rfl)
  rwa [Nat.zero_add] at this
theorem free (h : IM w0 w cb n N A G) {k : Nat} (hk : k < G.length) (j : Nat) : w.frozen? ⟨G[k].1, j, none⟩ = false := (h.rows k hk).free j
theorem kept (h : IM w0 w cb n N A G) (hc : Chg (fun _ => False) w w') : IM w0 w' cb n N A G :=
  ⟨h.len, h.le, hc.blk h.outer (fun x => x), fun k hk => (h.rows k hk).chg hc (fun x => x), h.ne, h.inj, h.chg.trans hc (fun _ x => x.elim), h.ocb, h.og⟩
theorem set (h : IM w0 w cb n N A G) {k j : Nat} (hk : k < G.length) (hj : j < n) (x : Int) : IM w0 (w.setCell ⟨G[k].1, j, none⟩ (.int .i64 x)) cb n N (A.set k ((row A k).set j x)) G := by
  refine ⟨by rw [List.length_set]; exact h.len, h.le, h.outer.setOther (h.ne k hk) _, fun i hi => ?_, h.ne, h.inj, h.chg.setCell (.inr (h.og k hk)) _, h.ocb, h.og⟩
  by_cases hik : k = i
  · subst hik
    have hr : row (A.set k ((row A k).set j x)) k = (row A k).set j x := by
      unfold row
      rw [List.getElem?_set_self (by rw [h.len]; exact hk)]
      rfl
    rw [hr, ivL_set]
    have := (h.rows k hk).set1 hj (.int .i64 x)
    rwa [Nat.zero_add] at this
  · have hr : row (A.set k ((row A k).set j x)) i = row A i := by
      unfold row
      rw [List.getElem?_set_ne hik]
    rw [hr]
    exact (h.rows i hi).chg ((Chg.refl (fun b => b = G[k].1) w).setCell (a := ⟨G[k].1, j, none⟩) (.inl rfl) _) (fun e => hik (h.inj i k hi hk e).symm)
theorem next (h : IM w0 w cb n N A G) (hlt : G.length < N) {g c : Nat} {l : List Int} (hc : Chg (fun k => k = cb) w w') (ho : Blk w' cb 29 (outG n N (G ++ [(g, c)]))) (hq : QueB w' 1 g 0 c n (ivL l)) (hg : w.heap.size ≤ g) : IM w0 w' cb n N (A ++ [l]) (G ++ [(g, c)]) := by
  have hcb := h.outer.lt
  have hgl : ∀ k (hk : k < G.length), G[k].1 < w.heap.size := fun k hk => (h.rows k hk).lt
  have hl : (G ++ [(g, c)]).length = G.length + 1 := by simp
  have hlast : ∀ hk : G.length < (G ++ [(g, c)]).length, (G ++ [(g, c)])[G.length] = (g, c) := fun hk => by simp
  have hfst : ∀ k (hk : k < G.length) (hk' : k < (G ++ [(g, c)]).length), (G ++ [(g, c)])[k] = G[k] := fun k hk hk' => List.getElem_append_left hk
  refine ⟨by simp [h.len], by omega, ho, fun k hk => ?_, fun k hk => ?_, fun j k hj hk he => ?_, h.chg.trans hc (fun b hb => .inr (by have := h.ocb; omega)), h.ocb, fun k hk => ?_⟩
  · by_cases hkl : k < G.length
    · rw [hfst k hkl hk, show row (A ++ [l]) k = row A k by unfold row; rw [List.getElem?_append_left (by rw [h.len]; exact hkl)]]
      exact (h.rows k hkl).chg hc (h.ne k hkl)
    · obtain rfl : k = G.length := by omega
      rw [hlast hk, show row (A ++ [l]) G.length = l by unfold row; rw [← h.len]; simp]
      exact hq
  · by_cases hkl : k < G.length
    · rw [hfst k hkl hk]; exact h.ne k hkl
    · obtain rfl : k = G.length := by omega
      rw [hlast hk]
      show g ≠ cb
      omega
  · by_cases hkl : k < G.length
    · by_cases hjl : j < G.length
      · rw [hfst k hkl hk, hfst j hjl hj] at he
        exact h.inj j k hjl hkl he
      · obtain rfl : j = G.length := by omega
        rw [hfst k hkl hk, hlast hj] at he
        have := hgl k hkl
        simp only at he
        omega
    · obtain rfl : k = G.length := by omega
      by_cases hjl : j < G.length
      · rw [hlast hk, hfst j hjl hj] at he
        have := hgl j hjl
        simp only at he
        omega
      · omega
  · by_cases hkl : k < G.length
    · rw [hfst k hkl hk]; exact h.og k hkl
    · obtain rfl : k = G.length := by omega
      rw [hlast hk]
      have := h.chg.size
      show w0.heap.size ≤ g
      omega
end IM
/-- A matrix as it is read. -/
def MatI (w : World) (cb n : Nat) (A : List (List Int)) : Prop := ∀ i, i < n → ∃ g c, w.cell? ⟨cb, i, none⟩ = some (.slice (some ⟨g, 0, none⟩) n c) ∧ ∀ j, j < n → w.cell? ⟨g, j, none⟩ = some (.int .i64 (ent A i j))
theorem MatI.chg {w w' : World} {cb n : Nat} {A : List (List Int)} (h : MatI w cb n A) (hc : Chg (fun _ => False) w w') : MatI w' cb n A := fun i hi => by
  obtain ⟨g, c, h1, h2⟩ := h i hi
  exact ⟨g, c, hc.cell_some h1 (fun x => x), fun j hj => hc.cell_some (h2 j hj) (fun x => x)⟩
theorem IM.mat {w0 w : World} {cb n N : Nat} {A : List (List Int)} {G : List (Nat × Nat)} (h : IM w0 w cb n N A G) (hn : n ≤ G.length) : MatI w cb n A := fun i hi => ⟨G[i].1, G[i].2, h.outer_at (by omega), fun j hj => h.ent_at (by omega) hj⟩

theorem info29 : (Tryd.prog.info? 29).map (fun i => (i.zero, i.size, i.bytes)) = some (some (.slice none 0 0), 1, 24) := by kernel_rfl
theorem make_mat (N : Nat) (hN : N ≤ 1000) (w : World) : (Instr.makeSlice 63 (.int .i64 N) (.int .i64 N)).run Tryd.prog w = .ok (.slice (some ⟨w.heap.size, 0, none⟩) N N) (w.alloc (.cells (Array.replicate N (.slice none 0 0)) 29)) := by
  obtain ⟨i0, hi0, hz0, hz1, hz2⟩ := info_parts info29
  have := run_make (P := Tryd.prog) w 63 29 i0 _ Tryd.underlying63 hi0 hz0 .i64 .i64 N N (by omega) (by omega) (by rw [hz2]; omega) (by omega)
  rw [this, hz1, Nat.mul_one, show (Value.slice none 0 0).cells = #[Value.slice none 0 0] from rfl, madeCells_one]
  rfl
theorem made_mat (n N : Nat) (w : World) : IM w (w.alloc (.cells (Array.replicate N (.slice none 0 0)) 29)) w.heap.size n N [] [] := by
  have := Blk.new w (Array.replicate N (.slice none 0 0)) 29
  exact ⟨rfl, Nat.zero_le _, by unfold outG; simpa [nilS] using this, fun k hk => by simp at hk, fun k hk => by simp at hk, fun j k hj => by simp at hj, (Chg.refl _ w).alloc _, Nat.le_refl _, fun k hk => by simp at hk⟩
end Go.Proofs.YtilacamhjibneaaDoor
