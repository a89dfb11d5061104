/- Plain lemmas on worlds that grow, and on slices that read as lists. No condition. -/
import Derived.Test.YtgamekcjjpjnnaaRows
import Derived.WalkKit
import Derived.WalkLawsBesides
import Derived.WalkSpells
import Derived.LoopTactic
import Derived.Deep.LoopGhost
import Derived.BigQuiet
import Derived.BigGuardPart
import Derived.Deep.QuietTactic
import Derived.Deep.RegionWith
import Derived.StillTailTactics
import Derived.Deep.DeepCutAuto
import Derived.Deep.DeepFit
import Derived.Outline
import Derived.Below
import Derived.Lib.Hide
set_option linter.unusedVariables false
namespace Go
/-- What a call adds: new blocks, and how far the tape has been drawn. -/
structure Ext where
  blocks : Array Obj
  drawn : Nat

/-- The world with new blocks behind its own. -/
def World.grow (w : World) (x : Ext) : World := { w with heap := w.heap ++ x.blocks, drawn := x.drawn }

namespace World
theorem grow_block (w : World) (x : Ext) {k : Nat} (h : k < w.heap.size) : (w.grow x).heap[k]? = w.heap[k]? := by
  show (w.heap ++ x.blocks)[k]? = _
  rw [Array.getElem?_append_left h]

theorem cell_lt {w : World} {a : Addr} {v : Value} (h : w.cell? a = some v) : a.block < w.heap.size := by
  unfold World.cell? at h
  by_cases hb : a.block < w.heap.size
  · exact hb
  · rw [Array.getElem?_eq_none (by omega)] at h
    cases h

theorem grow_cell {w : World} {a : Addr} {v : Value} (h : w.cell? a = some v) : ∀ x, (w.grow x).cell? a = some v := fun x => by
  rw [← h]
  exact World.cell?_of_block (w := w) (w.grow_block x (cell_lt h))

theorem grow_frozen {w : World} {a : Addr} (h : a.block < w.heap.size) : ∀ x, (w.grow x).frozen? a = w.frozen? a := fun x =>
  World.frozen?_of_block (w := w) (w.grow_block x h)

theorem grow_below (w : World) (x : Ext) : RowKit.Below w.heap.size w (w.grow x) :=
  ⟨rfl, rfl, rfl, by show _ ≤ (w.heap ++ x.blocks).size; simp, fun k hk => w.grow_block x hk⟩

theorem grow_of_below {w w' : World} (h : RowKit.Below w.heap.size w w') : ∃ x, w' = w.grow x := by
  refine ⟨⟨w'.heap.extract w.heap.size w'.heap.size, w'.drawn⟩, ?_⟩
  cases w' with
  | mk heap tape drawn os output =>
    have h1 := h.os; have h2 := h.tape; have h3 := h.output; have h4 := h.size; have h5 := h.block
    simp only at h1 h2 h3 h4 h5
    subst h1 h2 h3
    unfold World.grow
    congr 1
    apply Array.ext_getElem?
    intro i
    by_cases hi : i < w.heap.size
    · rw [h5 i hi, Array.getElem?_append_left hi]
    · rw [Array.getElem?_append_right (by omega), Array.getElem?_extract]
      dsimp only
      by_cases h6 : i < heap.size
      · rw [if_pos (by omega)]; congr 1; omega
      · rw [if_neg (by omega), Array.getElem?_eq_none (by omega)]

theorem grow_drewN (w : World) (n : Nat) : ∃ x, w.drewN n = w.grow x := grow_of_below ⟨rfl, rfl, rfl, Nat.le_refl _, fun _ _ => rfl⟩
theorem grow_grow (w : World) (x y : Ext) : ∃ z, (w.grow x).grow y = w.grow z :=
  grow_of_below ((grow_below w x).trans ((grow_below _ y).mono (grow_below w x).size))
theorem grow_refl (w : World) : ∃ z, w = w.grow z := grow_of_below (RowKit.Below.refl _ _)
end World

theorem wp_region_grow_lit {P : Program} {id : Nat} {Q : Exit → Act → World → Prop} {a : Act} {w : World} {l : List Oper} (hm : P.follows .mixedOrders = true) (hB : Region.lexB .any l.toArray = true)
    (h : wpQuiet P l.toArray (fun w' => ∃ x, w' = w.grow x) (fun a' => ∀ w', (∃ x, w' = w.grow x) → Q .normal a' w') l a) : (Code.region id l.toArray true).wp P Q a w :=
  wp_region_quiet (C := fun w' => ∃ x, w' = w.grow x) hm hB (World.grow_drewN w 1) (by simpa using h)

theorem Calls.grow_of {P : Program} {f : FuncId} {args : Array Value} {w : World} {x : Ext} {v : Value}
    (h : Calls P f args (w.grow x) fun e w' => e = .returned v ∧ ∃ y, w' = (w.grow x).grow y) : Calls P f args (w.grow x) fun e w'' => e = .returned v ∧ ∃ y, w'' = w.grow y :=
  h.mono fun _ _ ⟨he, y, hy⟩ => ⟨he, by obtain ⟨z, hz⟩ := w.grow_grow x y; exact ⟨z, by rw [hy, hz]⟩⟩
end Go

namespace Go.Proofs.Ytgamekcjjpjnnaa
open Go.RowKit

theorem ret_int {k : IntKind} {a b : Int} (h : a = b) : Ending.returned (.int k a) = .returned (.int k b) := by rw [h]
theorem ret_bool {a b : Bool} (h : a = b) : Ending.returned (.bool a) = .returned (.bool b) := by rw [h]
theorem i64_of {n : Int} (h : (Lit.int .i64 n).wf = true) : -9223372036854775808 ≤ n ∧ n ≤ 9223372036854775807 := by
  simpa [Lit.wf, IntKind.min, IntKind.max, IntKind.signed, IntKind.bits] using h

/-- A span. -/
structure Sp where
  src : Int
  dst : Int
  lo : Int
  hi : Int
  deriving DecidableEq, Inhabited

def Sp.val (s : Sp) : Value := .agg #[.int .i64 s.src, .int .i64 s.dst, .int .i64 s.lo, .int .i64 s.hi]
def I64 (n : Int) : Prop := -9223372036854775808 ≤ n ∧ n ≤ 9223372036854775807
def Sp.I64 (s : Sp) : Prop := Ytgamekcjjpjnnaa.I64 s.src ∧ Ytgamekcjjpjnnaa.I64 s.dst ∧ Ytgamekcjjpjnnaa.I64 s.lo ∧ Ytgamekcjjpjnnaa.I64 s.hi

/-- The cells of a list of whole numbers. -/
def IntsAt (w : World) (b off : Nat) (xs : List Int) : Prop := ∀ k (h : k < xs.length), w.cell? ⟨b, off + k, none⟩ = some (.int .i64 xs[k])
/-- The cells of a list of spans. -/
def SpansAt (w : World) (b off : Nat) (l : List Sp) : Prop := ∀ k (h : k < l.length),
  w.cell? ⟨b, off + k * 4, none⟩ = some (.int .i64 l[k].src) ∧ w.cell? ⟨b, off + k * 4 + 1, none⟩ = some (.int .i64 l[k].dst) ∧
  w.cell? ⟨b, off + k * 4 + 2, none⟩ = some (.int .i64 l[k].lo) ∧ w.cell? ⟨b, off + k * 4 + 3, none⟩ = some (.int .i64 l[k].hi)
end Go.Proofs.Ytgamekcjjpjnnaa
