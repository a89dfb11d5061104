/- Rows of cells, one block each, that are put behind each other. Their conditions are their premises. -/
import Derived.Test.YtilacamhjibneaaDoorV65
set_option linter.unusedVariables false
namespace Go.Proofs.YtilacamhjibneaaDoor
open Go.RowKit

/-- Row y lies in the block G[y] and holds C y; the slice v holds the rows. -/
structure RG (w0 w : World) (e1 e2 : TypeId) (n : Nat) (C : Nat → List Value) (v : Value) (G : List Nat) : Prop where
  own : w.ownsRow w0.heap.size e1 1 v G.length (G.map (rv n))
  rows : ∀ y (h : y < G.length), Blk w G[y] e2 (C y) ∧ v.ownBlock ≠ some G[y] ∧ w0.heap.size ≤ G[y]
  inj : ∀ y z (hy : y < G.length) (hz : z < G.length), G[y] = G[z] → y = z
  chg : Chg (fun _ => False) w0 w
namespace RG
variable {w0 w w' : World} {e1 e2 : TypeId} {n : Nat} {C : Nat → List Value} {v : Value} {G : List Nat}
theorem kept (h : RG w0 w e1 e2 n C v G) (hc : Chg (fun _ => False) w w') : RG w0 w' e1 e2 n C v G :=
  ⟨owns_chg h.own hc, fun y hy => ⟨hc.blk (h.rows y hy).1 (fun x => x), (h.rows y hy).2⟩, h.inj, h.chg.trans hc (fun _ x => x.elim)⟩
theorem congr {D : Nat → List Value} (h : RG w0 w e1 e2 n C v G) (hD : ∀ y, y < G.length → D y = C y) : RG w0 w e1 e2 n D v G :=
  ⟨h.own, fun y hy => by rw [hD y hy]; exact h.rows y hy, h.inj, h.chg⟩
theorem push {v' : Value} {rb : Nat} {w2 : World} (h : RG w0 w e1 e2 n C v G) (hblk : Blk w rb e2 (C G.length)) (hnew : ∀ y (hy : y < G.length), G[y] ≠ rb) (hne : v.ownBlock ≠ some rb) (hw0 : w0.heap.size ≤ rb)
    (ho : w2.ownsRow w0.heap.size e1 1 v' (G.length + 1) (G.map (rv n) ++ [rv n rb])) (hg : w.grownBy w2 v.ownBlock) (htwo : v'.ownBlock = v.ownBlock ∨ ∃ g, w.heap.size ≤ g ∧ v'.ownBlock = some g) : RG w0 w2 e1 e2 n C v' (G ++ [rb]) := by
  have hc := Chg.of_grownRow hg
  have hown : ∀ k, v.ownBlock = some k → w0.heap.size ≤ k := fun k hk => (h.own.lt _ hk).1
  have key : ∀ g, g < w.heap.size → v.ownBlock ≠ some g → v'.ownBlock ≠ some g := fun g hg1 hg2 e => by
    rcases htwo with h1 | ⟨g', h1, h2⟩
    · rw [h1] at e; exact hg2 e
    · rw [h2] at e; cases e; omega
  refine ⟨?_, fun y hy => ?_, fun y z hy hz e => ?_, h.chg.trans hc (fun k hk => .inr (hown k hk.symm))⟩
  · rw [List.length_append, List.map_append]
    exact ho
  · by_cases hyl : y < G.length
    · rw [List.getElem_append_left hyl]
      obtain ⟨h1, h2, h3⟩ := h.rows y hyl
      exact ⟨hc.blk h1 (fun e => h2 e.symm), key _ h1.lt h2, h3⟩
    · obtain rfl : y = G.length := by simp at hy; omega
      have he : (G ++ [rb])[G.length]'hy = rb := by simp
      rw [he]
      exact ⟨hc.blk hblk (fun e => hne e.symm), key _ hblk.lt hne, hw0⟩
  · simp only [List.length_append, List.length_singleton] at hy hz
    by_cases hyl : y < G.length
    · by_cases hzl : z < G.length
      · rw [List.getElem_append_left hyl, List.getElem_append_left hzl] at e
        exact h.inj y z hyl hzl e
      · obtain rfl : z = G.length := by omega
        rw [List.getElem_append_left hyl] at e
        simp at e
        exact absurd e (hnew y hyl)
    · obtain rfl : y = G.length := by omega
      by_cases hzl : z < G.length
      · rw [List.getElem_append_left hzl] at e
        simp at e
        exact absurd e.symm (hnew z hzl)
      · omega
theorem set (h : RG w0 w e1 e2 n C v G) {y : Nat} (hy : y < G.length) (j : Nat) (x : Value) : RG w0 (w.setCell ⟨G[y], j, none⟩ x) e1 e2 n (fun z => if z = y then (C y).set j x else C z) v G := by
  have hc : Chg (fun k => k = G[y]) w (w.setCell ⟨G[y], j, none⟩ x) := (Chg.refl (fun k => k = G[y]) w).setCell (a := ⟨G[y], j, none⟩) (.inl rfl) x
  refine ⟨owns_chgS h.own hc (fun k hk e => (h.rows y hy).2.1 (by rw [hk, e])), fun z hz => ⟨?_, (h.rows z hz).2⟩, h.inj, h.chg.trans hc (fun k hk => .inr (by rw [hk]; exact (h.rows y hy).2.2))⟩
  by_cases hzy : z = y
  · subst hzy
    simp only [if_pos]
    exact (h.rows z hz).1.set j x
  · simp only [if_neg hzy]
    exact (h.rows z hz).1.setOther (a := ⟨G[y], j, none⟩) (fun e => hzy (h.inj z y hz hy e.symm)) x
theorem form (h : RG w0 w e1 e2 n C v G) (h0 : 0 < G.length) : ∃ g c, v = .slice (some ⟨g, 0, none⟩) G.length c ∧ w0.heap.size ≤ g ∧ ∀ y (hy : y < G.length), w.cell? ⟨g, y, none⟩ = some (rv n G[y]) := by
  obtain ⟨g, c, rfl, hg, hq⟩ := QueB.of_owns h.own h0
  refine ⟨g, c, rfl, hg, fun y hy => ?_⟩
  have := hq.at_ y (rv n G[y]) (by rw [List.getElem?_map, List.getElem?_eq_getElem hy]; rfl)
  rwa [Nat.zero_add] at this
end RG
theorem info29b : (Tryd.prog.info? 29).map (fun i => (i.zero, i.size, i.bytes)) = some (some (.slice none 0 0), 1, 24) := by kernel_rfl
/-- A row is put behind the rows. -/
theorem wpList_rg {w : World} {ops : Array Oper} {rest : List Oper} {o : Oper} {a : Act} {Q : Exit → Act → World → Prop} (hgd : o.guard = none) (sl x : Operand) (t e1 : TypeId)
    (ho : o.op = .call { callee := .builtin .append, args := #[sl, x], argTypes := #[t, t] }) (ht : Tryd.prog.underlying t = some (.slice e1)) (hi : (Tryd.prog.info? e1).map (fun i => (i.zero, i.size, i.bytes)) = some (some (.slice none 0 0), 1, 24))
    {w0 : World} {e2 : TypeId} {n : Nat} {C : Nat → List Value} {v : Value} {G : List Nat} {rb g3 : Nat} (h : RG w0 w e1 e2 n C v G) (hs : a.eval sl = v) (hx : a.eval x = .slice (some ⟨g3, 0, none⟩) 1 1) (hcell : w.cell? ⟨g3, 0, none⟩ = some (rv n rb))
    (hblk : Blk w rb e2 (C G.length)) (hnew : ∀ y (hy : y < G.length), G[y] ≠ rb) (hne : v.ownBlock ≠ some rb) (hw0 : w0.heap.size ≤ rb) (hl : G.length ≤ 1000)
    (hK : ∀ v' w', RG w0 w' e1 e2 n C v' (G ++ [rb]) → wpList Tryd.prog ops Q rest (a.put o.dst v') w') : wpList Tryd.prog ops Q (o :: rest) a w := by
  obtain ⟨i0, h0, h1, h2, h3⟩ := info_parts hi
  refine wpList_append_two hgd sl x t ho w0.heap.size e1 i0 _ 1 24 ht h0 h1 h2 h3 rfl (by decide) v G.length _ hs h.own ⟨g3, 0, none⟩ 1 1 [rv n rb] hx rfl (fun j u hj => ?_) (by intro u hu; simp at hu; subst hu; rfl) (by unfold maxLen; omega) (by omega) h.chg.size ?_
  · cases j with
    | zero =>
      simp at hj
      subst hj
      exact hcell
    | succ j => simp at hj
  · intro v' w' r1 r2 r3
    exact hK v' w' (h.push hblk hnew hne hw0 r1 r2 r3)
end Go.Proofs.YtilacamhjibneaaDoor
