/- A block of cells that is known whole: what reads and writes of it give. No condition. -/
import Derived.Test.YtgamekcjjpjnnaaA1
set_option linter.unusedVariables false
namespace Go
/-- Block B is the cells 'vals', none of them frozen. -/
def Blk (w : World) (B : Nat) (e : TypeId) (vals : List Value) : Prop := w.heap[B]? = some (.cells vals.toArray e (0, 0))

namespace Blk
variable {w : World} {B : Nat} {e : TypeId} {vals : List Value}

theorem lt (h : Blk w B e vals) : B < w.heap.size := by
  unfold Blk at h
  exact (Array.getElem?_eq_some_iff.1 h).1

theorem cell (h : Blk w B e vals) (i : Nat) : w.cell? ⟨B, i, none⟩ = vals[i]? := by
  unfold Blk at h
  simp [World.cell?, h]

theorem cell_some (h : Blk w B e vals) {i : Nat} {v : Value} (hv : vals[i]? = some v) : w.cell? ⟨B, i, none⟩ = some v := by rw [h.cell, hv]

theorem free (h : Blk w B e vals) (i : Nat) : w.frozen? ⟨B, i, none⟩ = false := by
  unfold Blk at h
  simp [World.frozen?, h]

theorem set (h : Blk w B e vals) (i : Nat) (v : Value) : Blk (w.setCell ⟨B, i, none⟩ v) B e (vals.set i v) := by
  unfold Blk at *
  simp only [World.setCell, Array.getElem?_modify, if_true, h, Option.map_some, Option.isSome_none, Bool.false_eq_true, if_false]
  simp

theorem setOther (h : Blk w B e vals) {a : Addr} (ha : a.block ≠ B) (v : Value) : Blk (w.setCell a v) B e vals := by
  unfold Blk at *
  rw [RowKit.Below.heap_setCell _ _ _ _ (Ne.symm ha), h]

theorem of_same (h : Blk w B e vals) {w' : World} (hh : w'.heap[B]? = w.heap[B]?) : Blk w' B e vals := by
  unfold Blk at *
  rw [hh, h]

theorem alloc (h : Blk w B e vals) (o : Obj) : Blk (w.alloc o) B e vals := h.of_same (RowKit.Below.heap_alloc _ _ _ h.lt)
theorem drew (h : Blk w B e vals) : Blk w.drew B e vals := h
theorem drewN (h : Blk w B e vals) (n : Nat) : Blk (w.drewN n) B e vals := h
theorem grow (h : Blk w B e vals) (x : Ext) : Blk (w.grow x) B e vals := h.of_same (w.grow_block x h.lt)
theorem below {B' : Nat} (h : Blk w B e vals) {w' : World} (hb : RowKit.Below B' w w') (hB : B < B') : Blk w' B e vals := h.of_same (hb.block B hB)
end Blk

theorem Blk.new (w : World) (arr : Array Value) (e : TypeId) : Blk (w.alloc (.cells arr e)) w.heap.size e arr.toList := by
  show (w.heap.push _)[w.heap.size]? = _
  simp

namespace RowKit
theorem Below.drewN {B : Nat} {a w : World} (h : Below B a w) (n : Nat) : Below B a (w.drewN n) := ⟨h.os, h.tape, h.output, h.size, h.block⟩
theorem Below.grow {B : Nat} {a w : World} (h : Below B a w) (hB : B ≤ w.heap.size) (x : Ext) : Below B a (w.grow x) := h.trans ((World.grow_below w x).mono hB)
theorem Below.le {B : Nat} {a w : World} (h : Below B a w) (hB : B ≤ a.heap.size) : B ≤ w.heap.size := Nat.le_trans hB h.size
end RowKit
end Go
