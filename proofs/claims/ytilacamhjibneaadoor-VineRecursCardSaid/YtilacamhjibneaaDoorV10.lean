/- A shoot a year later: next. Its conditions are its premises. -/
import Derived.Test.YtilacamhjibneaaDoorV9
import Derived.Test.YtilacamhjibneaaDoorShelf
set_option linter.unusedVariables false
namespace Go.Proofs.YtilacamhjibneaaDoor
open Go.RowKit Go.Shelf
attribute [local go_sem] Oper.semAt_some

theorem owns_base {w : World} {b b' : Nat} {e : TypeId} {sz : Nat} {v : Value} {n : Nat} {xs : List Value} (h : w.ownsRow b e sz v n xs) (hb : b' ≤ b) : w.ownsRow b' e sz v n xs := by
  refine ⟨h.1, ?_⟩
  rcases h.2 with hn | ⟨g, cap, cur, rfl, hbg, rest⟩
  · exact .inl hn
  · exact .inr ⟨g, cap, cur, rfl, Nat.le_trans hb hbg, rest⟩
theorem owns_block {w : World} {b : Nat} {e : TypeId} {sz : Nat} {v : Value} {n : Nat} {xs : List Value} (h : w.ownsRow b e sz v n xs) {k : Nat} (hk : v.ownBlock = some k) : ∃ o : Obj, w.heap[k]? = some o ∧ o.isCells = true := by
  rcases h.2 with ⟨rfl, _⟩ | ⟨g, cap, cur, rfl, hbg, hg, _⟩
  · cases hk
  · cases hk
    exact ⟨_, hg, rfl⟩

/-- A builder in block bb, whose bytes lie from block n₀ on. -/
def Bld (bb n₀ : Nat) (bs : List Value) (w : World) : Prop :=
  bb < n₀ ∧ ∃ p v, w.heap[bb]? = some (.cells #[p, v] 106 (0, 0)) ∧ (p = .pointer none ∨ p = .pointer (some ⟨bb, 0, none⟩)) ∧ w.ownsRow n₀ 5 1 v bs.length bs
theorem Bld.at_ {bb n₀ : Nat} {bs : List Value} {w : World} (h : Bld bb n₀ bs w) : Lib.IsBuilder 106 5 bb bb bs w := by
  obtain ⟨hlt, p, v, hb, hp, ho⟩ := h
  have hB : Lib.BuilderAt 106 5 bb bb p bs w := ⟨Nat.le_refl _, v, hb, owns_base ho (by omega), fun e => by have := (ho.lt _ e).1; omega⟩
  rcases hp with rfl | rfl
  · exact .inl hB
  · exact .inr hB
theorem Bld.kept {bb n₀ : Nat} {bs : List Value} {w w' : World} {row : Option Nat} (h : Bld bb n₀ bs w) (hg : w.grownBy w' row) (hr : ∀ r, row = some r → ∃ o : Obj, w.heap[r]? = some o ∧ o.isCells = false) : Bld bb n₀ bs w' := by
  obtain ⟨hlt, p, v, hb, hp, ho⟩ := h
  have hbl : bb < w.heap.size := (Array.getElem?_eq_some_iff.1 hb).1
  refine ⟨hlt, p, v, ?_, hp, ho.kept hg ?_⟩
  · rw [hg.block bb hbl (fun e => by
      obtain ⟨o, h1, h2⟩ := hr _ e.symm
      rw [hb] at h1
      cases h1
      cases h2)]
    exact hb
  · cases hk : v.ownBlock with
    | none => exact .inl rfl
    | some k =>
      refine .inr (fun e => ?_)
      obtain ⟨o, h1, h2⟩ := owns_block ho hk
      obtain ⟨o', h1', h2'⟩ := hr _ e.symm
      rw [h1] at h1'
      cases h1'
      rw [h2] at h2'
      cases h2'

theorem check2 (bb n₀ : Nat) (bs : List Value) (w : World) (h : Bld bb n₀ bs w) : Calls Tryd.prog 101 #[.pointer (some ⟨bb, 0, none⟩)] w fun e w' => e = .returned (.tuple #[]) ∧
    (∃ v, w'.heap[bb]? = some (.cells #[.pointer (some ⟨bb, 0, none⟩), v] 106 (0, 0)) ∧ w'.ownsRow n₀ 5 1 v bs.length bs) ∧ Chg (fun k => k = bb) w w' ∧ KeepsOthers w w' := by
  obtain ⟨hlt, p, v, hb, hp, ho⟩ := h
  have hB : Lib.BuilderAt 106 5 bb bb p bs w := ⟨Nat.le_refl _, v, hb, owns_base ho (by omega), fun e => by have := (ho.lt _ e).1; omega⟩
  rcases hp with rfl | rfl
  · refine (check_fresh bb w hB.cell0 hB.shape hB.frozen0).mono ?_
    rintro e w' ⟨rfl, rfl⟩
    have hc : Chg (fun k => k = bb) w (w.setCell ⟨bb, 0, none⟩ (.pointer (some ⟨bb, 0, none⟩))) := (Chg.refl (fun k => k = bb) w).setCell (a := ⟨bb, 0, none⟩) (.inl rfl) _
    refine ⟨rfl, ⟨v, ?_, owns_keep ho hc (fun k hk => by have := (ho.lt _ hk).1; omega)⟩, hc, KeepsOthers.setCell _ _ _⟩
    simp [World.setCell, Array.getElem?_modify, hb]
  · refine (check_used bb w hB.cell0).mono ?_
    rintro e w' ⟨rfl, rfl⟩
    exact ⟨rfl, ⟨v, hb, ho⟩, Chg.refl _ _, KeepsOthers.refl _⟩

set_option maxHeartbeats 1000000 in
set_option maxRecDepth 100000 in
theorem byte2_any (bb n₀ : Nat) (bs : List Value) (c : Int) (w : World) (h : Bld bb n₀ bs w) (hlen : bs.length + 1 ≤ 140737488355328) (hBw : n₀ ≤ w.heap.size) :
    Calls Tryd.prog 95 #[.pointer (some ⟨bb, 0, none⟩), .int .u8 c] w fun e w' => e = .returned .nilIface ∧ Bld bb n₀ (bs ++ [.int .u8 c]) w' ∧ KpN bb n₀ w w' ∧ KeepsOthers w w' := by
  obtain ⟨i0, hi, hz0, hz1, hz2⟩ := info_parts infoByte
  have hlt0 := h.1
  go_enter Tryd.func95, Tryd.ntmps95
  go_wp2_with (go_at_call 101; refine (check2 bb n₀ bs _ h).mono ?_)
  rintro e w1 ⟨rfl, ⟨v, hbk, hown⟩, hc1, hk1⟩
  have c0 : w1.cell? ⟨bb, 0, none⟩ = some (.pointer (some ⟨bb, 0, none⟩)) := by rw [Lib.cell_of_heap hbk]; rfl
  have c1 : w1.cell? ⟨bb, 1, none⟩ = some v := by rw [Lib.cell_of_heap hbk]; rfl
  have HB1 := Lib.hid hc1.size
  go_wp2_with (at_builtin; refine wpList_append_own _ rfl _ _ 52 rfl n₀ 5 i0 (.int .u8 0) 1 1 Tryd.underlying52 hi hz0 hz1 hz2 rfl (by decide) _ _ _ rfl (hown.alloc _) ⟨w1.heap.size, 0, none⟩ 1 1 [.int .u8 c] rfl rfl (by
    intro j u hj
    match j, hj with
    | 0, hj => simp at hj; subst hj; simp [Addr.add]) (by intro u hu; simp at hu; subst hu; rfl) (by unfold maxLen; omega) (by omega) (by have := HB1.out; simp; omega) ?_)
  intro v' w2 hown' hgrow _
  have hlt : bb < w1.heap.size := (Array.getElem?_eq_some_iff.1 hbk).1
  have hne : ∀ k, v.ownBlock = some k → n₀ ≤ k := fun k hk => (hown.lt _ hk).1
  have hb2 : w2.heap[bb]? = some (.cells #[.pointer (some ⟨bb, 0, none⟩), v] 106 (0, 0)) := by
    rw [hgrow.block bb (by simp; omega) (fun e => by have := hne bb e.symm; omega), Lib.alloc_old w1 _ bb hlt]
    exact hbk
  have d0 : w2.cell? ⟨bb, 0, none⟩ = some (.pointer (some ⟨bb, 0, none⟩)) := by rw [Lib.cell_of_heap hb2]; rfl
  have d1 : w2.cell? ⟨bb, 1, none⟩ = some v := by rw [Lib.cell_of_heap hb2]; rfl
  have f1 : w2.frozen? ⟨bb, 1, none⟩ = false := Lib.frozen_of_heap hb2 1
  have hne' : ∀ k, v'.ownBlock = some k → n₀ ≤ k := fun k hk => (hown'.lt _ hk).1
  obtain ⟨g, cap, rfl⟩ : ∃ g cap, v' = .slice (some ⟨g, 0, none⟩) (bs.length + 1) cap := by
    rcases hown'.2 with ⟨_, h0⟩ | ⟨g, cap, cur, hv, _⟩
    · omega
    · exact ⟨g, cap, hv⟩
  have HC2 : Hid (KpN bb n₀ w w2) := Lib.hid (((hc1.mono (fun _ h => .inl h)).alloc (.cells #[.int .u8 c] 5)).trans (Chg.of_grownRow hgrow) (fun k hk => .inl (.inr (hne k hk.symm))))
  have HK2 : Hid (KeepsOthers w w2) := Lib.hid ((hk1.trans (KeepsOthers.alloc _ (.cells #[.int .u8 c] 5))).trans (KeepsOthers.of_grownBy hgrow (fun j o hj ho => by
    obtain ⟨o', h1, h2⟩ := owns_block (hown.alloc (.cells #[.int .u8 c] 5)) hj
    rw [ho] at h1
    cases h1
    exact h2)))
  go_wp2
  go_ret
  refine ⟨rfl, ?_, ?_, ?_⟩
  · refine ⟨hlt0, .pointer (some ⟨bb, 0, none⟩), .slice (some ⟨g, 0, none⟩) (bs.length + 1) cap, ?_, .inr rfl, ?_⟩
    · simp [World.setCell, Array.getElem?_modify, hb2]
    · have := owns_keep (S := fun k => k = bb) hown' ((Chg.refl (fun k => k = bb) w2).setCell (a := ⟨bb, 1, none⟩) (.inl rfl) (.slice (some ⟨g, 0, none⟩) (bs.length + 1) cap)) (fun k hk => by have := hne' k hk; omega)
      simpa using this
  · exact HC2.out.setCell (a := ⟨bb, 1, none⟩) (.inl (.inl rfl)) _
  · exact HK2.out.trans (KeepsOthers.setCell _ _ _)

theorem grown_any (ao : Option Addr) (n cap : Nat) (s : ByteArray) (w : World) : Calls Tryd.prog 97 #[.slice ao n cap, .string s] w fun e w' =>
    e = .returned (.func (.func 104) #[] #[.pointer (some ⟨w.heap.size + 1, 0, none⟩), .pointer (some ⟨w.heap.size, 0, none⟩)]) ∧ w' = (w.alloc (.cells #[.slice ao n cap] 59)).alloc (.cells #[.string s] 9) := by
  go_enter Tryd.func97, Tryd.ntmps97
  go_wp2_with fail
  go_ret
  exact ⟨rfl, rfl⟩
end Go.Proofs.YtilacamhjibneaaDoor
