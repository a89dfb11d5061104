/- Plain lemmas on worlds that grow, on blocks, on slices of the call's own. No condition. -/
import Derived.Test.YtilacamhjibneaaDoorRows
import Derived.WalkKit
import Derived.WalkLawsBesides
import Derived.WalkSpells
import Derived.LoopTactic
import Derived.Deep.LoopGhost
import Derived.BigQuiet
import Derived.BigGuardPart
import Derived.Deep.QuietTactic
import Derived.Deep.RegionWith
import Derived.StillTailTactics
import Derived.Deep.DeepCutAuto
import Derived.Deep.DeepFit
import Derived.Outline
import Derived.Below
import Derived.Lib.Hide
import Derived.ArgAppend
import Derived.Lib.LazyBuf
import Derived.WalkMore
import Derived.Deep.RegionLawGrows
import Derived.Laws.BitsAllLaws
import Derived.Laws.MakeOwn
set_option linter.unusedVariables false
namespace Go
/-- What a call adds: new blocks, and how far the tape has been drawn. -/
structure Ext where
  blocks : Array Obj
  drawn : Nat

/-- The world with new blocks behind its own. -/
def World.grow (w : World) (x : Ext) : World := { w with heap := w.heap ++ x.blocks, drawn := x.drawn }

namespace World
theorem grow_block (w : World) (x : Ext) {k : Nat} (h : k < w.heap.size) : (w.grow x).heap[k]? = w.heap[k]? := by
  show (w.heap ++ x.blocks)[k]? = _
  rw [Array.getElem?_append_left h]

theorem cell_lt {w : World} {a : Addr} {v : Value} (h : w.cell? a = some v) : a.block < w.heap.size := by
  unfold World.cell? at h
  by_cases hb : a.block < w.heap.size
  · exact hb
  · rw [Array.getElem?_eq_none (by omega)] at h
    cases h

theorem grow_cell {w : World} {a : Addr} {v : Value} (h : w.cell? a = some v) : ∀ x, (w.grow x).cell? a = some v := fun x => by
  rw [← h]
  exact World.cell?_of_block (w := w) (w.grow_block x (cell_lt h))

theorem grow_frozen {w : World} {a : Addr} (h : a.block < w.heap.size) : ∀ x, (w.grow x).frozen? a = w.frozen? a := fun x =>
  World.frozen?_of_block (w := w) (w.grow_block x h)

theorem grow_below (w : World) (x : Ext) : RowKit.Below w.heap.size w (w.grow x) :=
  ⟨rfl, rfl, rfl, by show _ ≤ (w.heap ++ x.blocks).size; simp, fun k hk => w.grow_block x hk⟩

theorem grow_of_below {w w' : World} (h : RowKit.Below w.heap.size w w') : ∃ x, w' = w.grow x := by
  refine ⟨⟨w'.heap.extract w.heap.size w'.heap.size, w'.drawn⟩, ?_⟩
  cases w' with
  | mk heap tape drawn os output =>
    have h1 := h.os; have h2 := h.tape; have h3 := h.output; have h4 := h.size; have h5 := h.block
    simp only at h1 h2 h3 h4 h5
    subst h1 h2 h3
    unfold World.grow
    congr 1
    apply Array.ext_getElem?
    intro i
    by_cases hi : i < w.heap.size
    · rw [h5 i hi, Array.getElem?_append_left hi]
    · rw [Array.getElem?_append_right (by omega), Array.getElem?_extract]
      dsimp only
      by_cases h6 : i < heap.size
      · rw [if_pos (by omega)]; congr 1; omega
      · rw [if_neg (by omega), Array.getElem?_eq_none (by omega)]

theorem grow_drewN (w : World) (n : Nat) : ∃ x, w.drewN n = w.grow x := grow_of_below ⟨rfl, rfl, rfl, Nat.le_refl _, fun _ _ => rfl⟩
theorem grow_grow (w : World) (x y : Ext) : ∃ z, (w.grow x).grow y = w.grow z :=
  grow_of_below ((grow_below w x).trans ((grow_below _ y).mono (grow_below w x).size))
theorem grow_refl (w : World) : ∃ z, w = w.grow z := grow_of_below (RowKit.Below.refl _ _)
end World

theorem wp_region_grow_lit {P : Program} {id : Nat} {Q : Exit → Act → World → Prop} {a : Act} {w : World} {l : List Oper} (hm : P.follows .mixedOrders = true) (hB : Region.lexB .any l.toArray = true)
    (h : wpQuiet P l.toArray (fun w' => ∃ x, w' = w.grow x) (fun a' => ∀ w', (∃ x, w' = w.grow x) → Q .normal a' w') l a) : (Code.region id l.toArray true).wp P Q a w :=
  wp_region_quiet (C := fun w' => ∃ x, w' = w.grow x) hm hB (World.grow_drewN w 1) (by simpa using h)

theorem Calls.grow_of {P : Program} {f : FuncId} {args : Array Value} {w : World} {x : Ext} {v : Value}
    (h : Calls P f args (w.grow x) fun e w' => e = .returned v ∧ ∃ y, w' = (w.grow x).grow y) : Calls P f args (w.grow x) fun e w'' => e = .returned v ∧ ∃ y, w'' = w.grow y :=
  h.mono fun _ _ ⟨he, y, hy⟩ => ⟨he, by obtain ⟨z, hz⟩ := w.grow_grow x y; exact ⟨z, by rw [hy, hz]⟩⟩
end Go

namespace Go.Proofs.YtilacamhjibneaaDoor
open Go.RowKit

theorem ret_int {k : IntKind} {a b : Int} (h : a = b) : Ending.returned (.int k a) = .returned (.int k b) := by rw [h]
theorem ret_bool {a b : Bool} (h : a = b) : Ending.returned (.bool a) = .returned (.bool b) := by rw [h]
theorem i64_of {n : Int} (h : (Lit.int .i64 n).wf = true) : -9223372036854775808 ≤ n ∧ n ≤ 9223372036854775807 := by
  simpa [Lit.wf, IntKind.min, IntKind.max, IntKind.signed, IntKind.bits] using h



def I64 (n : Int) : Prop := -9223372036854775808 ≤ n ∧ n ≤ 9223372036854775807
/-- The cells of a list of whole numbers. -/
def IntsAt (w : World) (b off : Nat) (xs : List Int) : Prop := ∀ k (h : k < xs.length), w.cell? ⟨b, off + k, none⟩ = some (.int .i64 xs[k])
end Go.Proofs.YtilacamhjibneaaDoor


namespace Go
/-- Block B is the cells 'vals', none of them frozen. -/
def Blk (w : World) (B : Nat) (e : TypeId) (vals : List Value) : Prop := w.heap[B]? = some (.cells vals.toArray e (0, 0))

namespace Blk
variable {w : World} {B : Nat} {e : TypeId} {vals : List Value}

theorem lt (h : Blk w B e vals) : B < w.heap.size := by
  unfold Blk at h
  exact (Array.getElem?_eq_some_iff.1 h).1

theorem cell (h : Blk w B e vals) (i : Nat) : w.cell? ⟨B, i, none⟩ = vals[i]? := by
  unfold Blk at h
  simp [World.cell?, h]

theorem cell_some (h : Blk w B e vals) {i : Nat} {v : Value} (hv : vals[i]? = some v) : w.cell? ⟨B, i, none⟩ = some v := by rw [h.cell, hv]

theorem free (h : Blk w B e vals) (i : Nat) : w.frozen? ⟨B, i, none⟩ = false := by
  unfold Blk at h
  simp [World.frozen?, h]

theorem set (h : Blk w B e vals) (i : Nat) (v : Value) : Blk (w.setCell ⟨B, i, none⟩ v) B e (vals.set i v) := by
  unfold Blk at *
  simp only [World.setCell, Array.getElem?_modify, if_true, h, Option.map_some, Option.isSome_none, Bool.false_eq_true, if_false]
  simp

theorem setOther (h : Blk w B e vals) {a : Addr} (ha : a.block ≠ B) (v : Value) : Blk (w.setCell a v) B e vals := by
  unfold Blk at *
  rw [RowKit.Below.heap_setCell _ _ _ _ (Ne.symm ha), h]

theorem of_same (h : Blk w B e vals) {w' : World} (hh : w'.heap[B]? = w.heap[B]?) : Blk w' B e vals := by
  unfold Blk at *
  rw [hh, h]

theorem alloc (h : Blk w B e vals) (o : Obj) : Blk (w.alloc o) B e vals := h.of_same (RowKit.Below.heap_alloc _ _ _ h.lt)
theorem drew (h : Blk w B e vals) : Blk w.drew B e vals := h
theorem drewN (h : Blk w B e vals) (n : Nat) : Blk (w.drewN n) B e vals := h
theorem grow (h : Blk w B e vals) (x : Ext) : Blk (w.grow x) B e vals := h.of_same (w.grow_block x h.lt)
theorem below {B' : Nat} (h : Blk w B e vals) {w' : World} (hb : RowKit.Below B' w w') (hB : B < B') : Blk w' B e vals := h.of_same (hb.block B hB)
end Blk

theorem Blk.new (w : World) (arr : Array Value) (e : TypeId) : Blk (w.alloc (.cells arr e)) w.heap.size e arr.toList := by
  show (w.heap.push _)[w.heap.size]? = _
  simp

namespace RowKit
theorem Below.drewN {B : Nat} {a w : World} (h : Below B a w) (n : Nat) : Below B a (w.drewN n) := ⟨h.os, h.tape, h.output, h.size, h.block⟩
theorem Below.grow {B : Nat} {a w : World} (h : Below B a w) (hB : B ≤ w.heap.size) (x : Ext) : Below B a (w.grow x) := h.trans ((World.grow_below w x).mono hB)
theorem Below.le {B : Nat} {a w : World} (h : Below B a w) (hB : B ≤ a.heap.size) : B ≤ w.heap.size := Nat.le_trans hB h.size
end RowKit
end Go


namespace Go
/-- Nothing but blocks of S and new ones have changed. -/
structure Chg (S : Nat → Prop) (w w' : World) : Prop where
  os : w'.os = w.os
  tape : w'.tape = w.tape
  output : w'.output = w.output
  size : w.heap.size ≤ w'.heap.size
  block : ∀ k, k < w.heap.size → ¬ S k → w'.heap[k]? = w.heap[k]?

namespace Chg
variable {S : Nat → Prop} {w w' w'' : World}
theorem refl (S : Nat → Prop) (w : World) : Chg S w w := ⟨rfl, rfl, rfl, Nat.le_refl _, fun _ _ _ => rfl⟩
theorem trans {S' : Nat → Prop} (h : Chg S w w') (k : Chg S' w' w'') (hS : ∀ b, S' b → S b ∨ w.heap.size ≤ b) : Chg S w w'' :=
  ⟨k.os.trans h.os, k.tape.trans h.tape, k.output.trans h.output, Nat.le_trans h.size k.size, fun b hb hn => by
    rw [k.block b (Nat.lt_of_lt_of_le hb h.size) (fun hs => (hS b hs).elim hn (by omega)), h.block b hb hn]⟩
theorem mono {S' : Nat → Prop} (h : Chg S w w') (hS : ∀ b, S b → S' b) : Chg S' w w' := ⟨h.os, h.tape, h.output, h.size, fun b hb hn => h.block b hb fun hs => hn (hS b hs)⟩
theorem of_below (h : RowKit.Below w.heap.size w w') : Chg S w w' := ⟨h.os, h.tape, h.output, h.size, fun b hb _ => h.block b hb⟩
theorem below (h : Chg (fun _ => False) w w') : RowKit.Below w.heap.size w w' := ⟨h.os, h.tape, h.output, h.size, fun b hb => h.block b hb (fun x => x)⟩
theorem alloc (h : Chg S w w') (o : Obj) : Chg S w (w'.alloc o) := h.trans (of_below (S := fun _ => False) ((RowKit.Below.refl _ _).alloc (Nat.le_refl _) o)) (fun _ x => x.elim)
theorem drewN (h : Chg S w w') (n : Nat) : Chg S w (w'.drewN n) := ⟨h.os, h.tape, h.output, h.size, h.block⟩
theorem drew (h : Chg S w w') : Chg S w w'.drew := ⟨h.os, h.tape, h.output, h.size, h.block⟩
theorem grow (h : Chg S w w') (x : Ext) : Chg S w (w'.grow x) := h.trans (of_below (S := fun _ => False) (w'.grow_below x)) (fun _ x => x.elim)
theorem setCell (h : Chg S w w') {a : Addr} (ha : S a.block ∨ w.heap.size ≤ a.block) (v : Value) : Chg S w (w'.setCell a v) :=
  ⟨h.os, h.tape, h.output, by simpa [World.setCell] using h.size, fun b hb hn => by
    rw [RowKit.Below.heap_setCell _ _ _ _ (fun e => by subst e; exact ha.elim hn (by omega)), h.block b hb hn]⟩
theorem setRow (h : Chg S w w') {g : Nat} (hg : S g ∨ w.heap.size ≤ g) (cs : Array Value) : Chg S w (w'.setRow g cs) :=
  ⟨h.os, h.tape, h.output, by simpa using h.size, fun b hb hn => by
    rw [setRow_other _ _ _ _ (fun e => by subst e; exact hg.elim hn (by omega)), h.block b hb hn]⟩
theorem cell (h : Chg S w w') {p : Addr} (hp : p.block < w.heap.size) (hn : ¬ S p.block) : w'.cell? p = w.cell? p := World.cell?_of_block (w := w) (h.block _ hp hn)
theorem cell_some (h : Chg S w w') {p : Addr} {v : Value} (hv : w.cell? p = some v) (hn : ¬ S p.block) : w'.cell? p = some v := (h.cell (World.cell_lt hv) hn).trans hv
theorem frozen (h : Chg S w w') {p : Addr} (hp : p.block < w.heap.size) (hn : ¬ S p.block) : w'.frozen? p = w.frozen? p := World.frozen?_of_block (w := w) (h.block _ hp hn)
theorem blk (h : Chg S w w') {B : Nat} {e : TypeId} {vals : List Value} (hv : Blk w B e vals) (hn : ¬ S B) : Blk w' B e vals := hv.of_same (h.block _ hv.lt hn)
end Chg
end Go


namespace Go
section
variable {P : Program} {w : World}

theorem run_append_two (base : Nat) (t ty e : TypeId) (i : TypeInfo) (z : Value) (size bytes : Nat) (ht : P.underlying t = some (.slice e)) (hi : P.info? e = some i) (hz : i.zero = some z)
    (hsize : i.size = size) (hby : i.bytes = bytes) (hzs : z.cells.size = size) (hsz : 0 < size)
    (v : Value) (n : Nat) (xs : List Value) (hown : w.ownsRow base e size v n xs)
    (a : Addr) (m c : Nat) (news : List Value) (hl : news.length = m * size) (hnews : ∀ j u, news[j]? = some u → w.cell? (a.add j) = some u) (h1 : ∀ u ∈ news, u.oneCell' = true)
    (h63 : n + m ≤ maxLen) (hbytes : (n + m) * bytes ≤ 140737488355328) (hbase : base ≤ w.heap.size) :
    ∃ v' w', (Builtin.append_ #[t, t] ty #[v, .slice (some a) m c]).run P w = .ok v' w' ∧ w'.ownsRow base e size v' (n + m) (xs ++ news) ∧ w.grownBy w' v.ownBlock ∧
      (v'.ownBlock = v.ownBlock ∨ ∃ g, w.heap.size ≤ g ∧ v'.ownBlock = some g) := by
  obtain ⟨v', w', hrun, ho, hg, _⟩ := run_append_own (P := P) w base t ty e i z size bytes ht hi hz hsize hby hzs hsz v n xs hown a m c news hl hnews h1 h63 hbytes hbase
  refine ⟨v', w', hrun, ho, hg, ?_⟩
  rcases hown.2 with ⟨rfl, rfl⟩ | ⟨g, cap, cur, rfl, hb, hgg, hn, hc, hs, htk⟩
  · obtain ⟨v2, w2, hrun2, ho2, _, _⟩ := run_append_own (P := P) w w.heap.size t ty e i z size bytes ht hi hz hsize hby hzs hsz (.slice none 0 0) 0 [] (World.ownsRow_nil w _ e size) a m c news hl hnews h1 h63 hbytes (Nat.le_refl _)
    rw [hrun2] at hrun
    cases hrun
    cases hv : v'.ownBlock with
    | none => exact .inl rfl
    | some g => exact .inr ⟨g, (ho2.lt g hv).1, rfl⟩
  · by_cases hroom : n + m ≤ cap
    · subst hsize
      have hcell : ∀ j, j < news.length → (w.cell? ⟨g, 0 + n * i.size + j, none⟩).isSome = true ∧ w.frozen? ⟨g, 0 + n * i.size + j, none⟩ = false := fun j hj => by
        have hlt : 0 + n * i.size + j < cur.size := by
          rw [hs, hl] at *
          have : (n + m) * i.size ≤ cap * i.size := Nat.mul_le_mul_right _ hroom
          rw [Nat.add_mul] at this
          omega
        constructor
        · simp [World.cell?, hgg]; omega
        · simp [World.frozen?, hgg]
      have hrun2 := run_append_room_cells (P := P) w t ty e i ht hi g 0 n cap a m c news hl hnews h1 hroom (fun j hj => (hcell j hj).1) (fun j hj => (hcell j hj).2)
      rw [hrun2] at hrun
      cases hrun
      exact .inl rfl
    · have holds : ∀ j u, xs[j]? = some u → w.cell? ((⟨g, 0, none⟩ : Addr).add j) = some u := hown.cells rfl
      obtain ⟨v2, w2, hrun2, ho2, _⟩ := run_append_arg_grows (P := P) w t ty e i z size bytes ht hi hz hsize hby hzs hsz ⟨g, 0, none⟩ n cap xs hown.1 holds a m c news hl hnews (by omega) h63 hbytes
      rw [hrun2] at hrun
      cases hrun
      cases hv : v'.ownBlock with
      | none =>
        rcases ho2.2 with ⟨rfl, h0⟩ | ⟨g2, c2, cur2, rfl, _⟩
        · exfalso; omega
        · simp [Value.ownBlock] at hv
      | some g2 => exact .inr ⟨g2, (ho2.lt g2 hv).1, rfl⟩

theorem wpList_append_two {ops : Array Oper} {rest : List Oper} {o : Oper} {a : Act} {Q : Exit → Act → World → Prop} (hgd : o.guard = none) (s x : Operand) (t : TypeId)
    (ho : o.op = .call { callee := .builtin .append, args := #[s, x], argTypes := #[t, t] })
    (base : Nat) (e : TypeId) (i : TypeInfo) (z : Value) (size bytes : Nat) (ht : P.underlying t = some (.slice e)) (hi : P.info? e = some i) (hz : i.zero = some z)
    (hsize : i.size = size) (hby : i.bytes = bytes) (hzs : z.cells.size = size) (hsz : 0 < size)
    (v : Value) (n : Nat) (xs : List Value) (hs : a.eval s = v) (hown : w.ownsRow base e size v n xs)
    (ad : Addr) (m c : Nat) (news : List Value) (hx : a.eval x = .slice (some ad) m c) (hl : news.length = m * size) (hnews : ∀ j u, news[j]? = some u → w.cell? (ad.add j) = some u) (h1 : ∀ u ∈ news, u.oneCell' = true)
    (h63 : n + m ≤ maxLen) (hbytes : (n + m) * bytes ≤ 140737488355328) (hbase : base ≤ w.heap.size)
    (h : ∀ v' w', w'.ownsRow base e size v' (n + m) (xs ++ news) → w.grownBy w' v.ownBlock → (v'.ownBlock = v.ownBlock ∨ ∃ g, w.heap.size ≤ g ∧ v'.ownBlock = some g) → wpList P ops Q rest (a.put o.dst v') w') : wpList P ops Q (o :: rest) a w := by
  refine wpList_step fun K hK => ?_
  rw [if_pos (by simp [Region.wanted, hgd])]
  obtain ⟨v', w', hrun, r1, r2, r3⟩ := run_append_two (P := P) base t o.type e i z size bytes ht hi hz hsize hby hzs hsz v n xs hown ad m c news hl hnews h1 h63 hbytes hbase
  unfold Oper.wp
  simp [execOp, ho, resolve, invoke, builtin, hs, hx, hrun, Result.andThen]
  exact hK _ _ (h v' w' r1 r2 r3)

theorem step_append_two {ops : Array Oper} {o : Oper} {a : Act} {K : Act → World → Prop} {Q : Exit → Act → World → Prop} {E : Prop} (hgd : o.guard = none) (s x : Operand) (t : TypeId)
    (ho : o.op = .call { callee := .builtin .append, args := #[s, x], argTypes := #[t, t] })
    (base : Nat) (e : TypeId) (i : TypeInfo) (z : Value) (size bytes : Nat) (ht : P.underlying t = some (.slice e)) (hi : P.info? e = some i) (hz : i.zero = some z)
    (hsize : i.size = size) (hby : i.bytes = bytes) (hzs : z.cells.size = size) (hsz : 0 < size)
    (v : Value) (n : Nat) (xs : List Value) (hs : a.eval s = v) (hown : w.ownsRow base e size v n xs)
    (ad : Addr) (m c : Nat) (news : List Value) (hx : a.eval x = .slice (some ad) m c) (hl : news.length = m * size) (hnews : ∀ j u, news[j]? = some u → w.cell? (ad.add j) = some u) (h1 : ∀ u ∈ news, u.oneCell' = true)
    (h63 : n + m ≤ maxLen) (hbytes : (n + m) * bytes ≤ 140737488355328) (hbase : base ≤ w.heap.size)
    (hK : ∀ v' w', w'.ownsRow base e size v' (n + m) (xs ++ news) → w.grownBy w' v.ownBlock → (v'.ownBlock = v.ownBlock ∨ ∃ g, w.heap.size ≤ g ∧ v'.ownBlock = some g) → K (a.put o.dst v') w') :
    if Region.wanted o (yielded ops a.tmps) = true then Oper.wp P o a w K Q else E := by
  rw [if_pos (by simp [Region.wanted, hgd])]
  obtain ⟨v', w', hrun, r1, r2, r3⟩ := run_append_two (P := P) base t o.type e i z size bytes ht hi hz hsize hby hzs hsz v n xs hown ad m c news hl hnews h1 h63 hbytes hbase
  unfold Oper.wp
  simp [execOp, ho, resolve, invoke, builtin, hs, hx, hrun, Result.andThen]
  exact hK v' w' r1 r2 r3
end

/-- Two slices of the call's own lie apart. -/
def Ap2 (v u : Value) : Prop := ∀ k, v.ownBlock = some k → u.ownBlock ≠ some k

theorem Ap2.symm {v u : Value} (h : Ap2 v u) : Ap2 u v := fun k h1 h2 => h k h2 h1
theorem Ap2.nil {u : Value} : Ap2 (.slice none 0 0) u := fun k h => by simp [Value.ownBlock] at h
theorem Ap2.kept {w w' : World} {v u : Value} {base : Nat} {e : TypeId} {size n : Nat} {xs : List Value} (h : Ap2 v u) (hu : w.ownsRow base e size u n xs) (hg : w.grownBy w' v.ownBlock) : w'.ownsRow base e size u n xs := by
  refine hu.kept hg ?_
  cases hb : u.ownBlock with
  | none => exact .inl rfl
  | some k => exact .inr fun he => h k he.symm hb
theorem Ap2.next {w : World} {v v' u : Value} {base : Nat} {e : TypeId} {size n : Nat} {xs : List Value} (h : Ap2 v u) (hu : w.ownsRow base e size u n xs) (hr : v'.ownBlock = v.ownBlock ∨ ∃ g, w.heap.size ≤ g ∧ v'.ownBlock = some g) : Ap2 v' u := by
  intro k h1 h2
  rcases hr with hr | ⟨g, hg, hr⟩
  · exact h k (by rw [← hr]; exact h1) h2
  · rw [hr] at h1
    cases h1
    have := (hu.lt _ h2).2
    omega
end Go


namespace Go
section
variable {P : Program} {w : World}

theorem run_append_empty (t ty e : TypeId) (i : TypeInfo) (ht : P.underlying t = some (.slice e)) (hi : P.info? e = some i) (ao : Option Addr) (n cap : Nat) (hn : n ≤ cap) (bo : Option Addr) (c : Nat) :
    (Builtin.append_ #[t, t] ty #[.slice ao n cap, .slice bo 0 c]).run P w = .ok (.slice ao n cap) w := by
  have hf : (Builtin.firstCells i.size 0 (.slice bo 0 c)).run P w = .ok #[] w := by
    cases bo with
    | none => simp [Builtin.firstCells]
    | some a =>
      have := run_loadCells_list (P := P) w a [] (fun j v h => by simp at h)
      simp [Builtin.firstCells]
      simpa using this
  cases ao with
  | none => simp [Builtin.append_, run_underlying ht, sizeOf, typeInfo, hi, Builtin.lenOf, hn, hf]
  | some a => simp [Builtin.append_, run_underlying ht, sizeOf, typeInfo, hi, Builtin.lenOf, hn, hf, storeCells]

theorem run_append_all (base : Nat) (t ty e : TypeId) (i : TypeInfo) (z : Value) (size bytes : Nat) (ht : P.underlying t = some (.slice e)) (hi : P.info? e = some i) (hz : i.zero = some z)
    (hsize : i.size = size) (hby : i.bytes = bytes) (hzs : z.cells.size = size) (hsz : 0 < size)
    (v : Value) (n : Nat) (xs : List Value) (hown : w.ownsRow base e size v n xs)
    (bo : Option Addr) (m c : Nat) (news : List Value) (hl : news.length = m * size) (hsrc : m = 0 ∨ ∃ a, bo = some a ∧ ∀ j u, news[j]? = some u → w.cell? (a.add j) = some u) (h1 : ∀ u ∈ news, u.oneCell' = true)
    (h63 : n + m ≤ maxLen) (hbytes : (n + m) * bytes ≤ 140737488355328) (hbase : base ≤ w.heap.size) :
    ∃ v' w', (Builtin.append_ #[t, t] ty #[v, .slice bo m c]).run P w = .ok v' w' ∧ w'.ownsRow base e size v' (n + m) (xs ++ news) ∧ w.grownBy w' v.ownBlock ∧
      (v'.ownBlock = v.ownBlock ∨ ∃ g, w.heap.size ≤ g ∧ v'.ownBlock = some g) := by
  rcases hsrc with rfl | ⟨a, rfl, hnews⟩
  · have hn : news = [] := List.eq_nil_of_length_eq_zero (by simpa using hl)
    subst hn
    obtain ⟨ao, cp, rfl, hcp⟩ : ∃ ao cp, v = .slice ao n cp ∧ n ≤ cp := by
      rcases hown.2 with ⟨rfl, rfl⟩ | ⟨g, cap, cur, rfl, _, _, hn, _⟩
      · exact ⟨none, 0, rfl, Nat.le_refl _⟩
      · exact ⟨_, cap, rfl, hn⟩
    refine ⟨_, w, run_append_empty t ty e i ht hi ao n cp hcp bo c, by simpa using hown, ⟨rfl, rfl, rfl, Nat.le_refl _, fun k _ _ => rfl⟩, .inl rfl⟩
  · exact run_append_two (P := P) base t ty e i z size bytes ht hi hz hsize hby hzs hsz v n xs hown a m c news hl hnews h1 h63 hbytes hbase

theorem wpList_append_all {ops : Array Oper} {rest : List Oper} {o : Oper} {a : Act} {Q : Exit → Act → World → Prop} (hgd : o.guard = none) (s x : Operand) (t : TypeId)
    (ho : o.op = .call { callee := .builtin .append, args := #[s, x], argTypes := #[t, t] })
    (base : Nat) (e : TypeId) (i : TypeInfo) (z : Value) (size bytes : Nat) (ht : P.underlying t = some (.slice e)) (hi : P.info? e = some i) (hz : i.zero = some z)
    (hsize : i.size = size) (hby : i.bytes = bytes) (hzs : z.cells.size = size) (hsz : 0 < size)
    (v : Value) (n : Nat) (xs : List Value) (hs : a.eval s = v) (hown : w.ownsRow base e size v n xs)
    (bo : Option Addr) (m c : Nat) (news : List Value) (hx : a.eval x = .slice bo m c) (hl : news.length = m * size) (hsrc : m = 0 ∨ ∃ a, bo = some a ∧ ∀ j u, news[j]? = some u → w.cell? (a.add j) = some u) (h1 : ∀ u ∈ news, u.oneCell' = true)
    (h63 : n + m ≤ maxLen) (hbytes : (n + m) * bytes ≤ 140737488355328) (hbase : base ≤ w.heap.size)
    (h : ∀ v' w', w'.ownsRow base e size v' (n + m) (xs ++ news) → w.grownBy w' v.ownBlock → (v'.ownBlock = v.ownBlock ∨ ∃ g, w.heap.size ≤ g ∧ v'.ownBlock = some g) → wpList P ops Q rest (a.put o.dst v') w') : wpList P ops Q (o :: rest) a w := by
  refine wpList_step fun K hK => ?_
  rw [if_pos (by simp [Region.wanted, hgd])]
  obtain ⟨v', w', hrun, r1, r2, r3⟩ := run_append_all (P := P) base t o.type e i z size bytes ht hi hz hsize hby hzs hsz v n xs hown bo m c news hl hsrc h1 h63 hbytes hbase
  unfold Oper.wp
  simp [execOp, ho, resolve, invoke, builtin, hs, hx, hrun, Result.andThen]
  exact hK _ _ (h v' w' r1 r2 r3)

theorem step_append_all {ops : Array Oper} {o : Oper} {a : Act} {K : Act → World → Prop} {Q : Exit → Act → World → Prop} {E : Prop} (hgd : o.guard = none) (s x : Operand) (t : TypeId)
    (ho : o.op = .call { callee := .builtin .append, args := #[s, x], argTypes := #[t, t] })
    (base : Nat) (e : TypeId) (i : TypeInfo) (z : Value) (size bytes : Nat) (ht : P.underlying t = some (.slice e)) (hi : P.info? e = some i) (hz : i.zero = some z)
    (hsize : i.size = size) (hby : i.bytes = bytes) (hzs : z.cells.size = size) (hsz : 0 < size)
    (v : Value) (n : Nat) (xs : List Value) (hs : a.eval s = v) (hown : w.ownsRow base e size v n xs)
    (bo : Option Addr) (m c : Nat) (news : List Value) (hx : a.eval x = .slice bo m c) (hl : news.length = m * size) (hsrc : m = 0 ∨ ∃ a, bo = some a ∧ ∀ j u, news[j]? = some u → w.cell? (a.add j) = some u) (h1 : ∀ u ∈ news, u.oneCell' = true)
    (h63 : n + m ≤ maxLen) (hbytes : (n + m) * bytes ≤ 140737488355328) (hbase : base ≤ w.heap.size)
    (hK : ∀ v' w', w'.ownsRow base e size v' (n + m) (xs ++ news) → w.grownBy w' v.ownBlock → (v'.ownBlock = v.ownBlock ∨ ∃ g, w.heap.size ≤ g ∧ v'.ownBlock = some g) → K (a.put o.dst v') w') :
    if Region.wanted o (yielded ops a.tmps) = true then Oper.wp P o a w K Q else E := by
  rw [if_pos (by simp [Region.wanted, hgd])]
  obtain ⟨v', w', hrun, r1, r2, r3⟩ := run_append_all (P := P) base t o.type e i z size bytes ht hi hz hsize hby hzs hsz v n xs hown bo m c news hl hsrc h1 h63 hbytes hbase
  unfold Oper.wp
  simp [execOp, ho, resolve, invoke, builtin, hs, hx, hrun, Result.andThen]
  exact hK v' w' r1 r2 r3

/-- A new block of no cells is an empty row. -/
theorem owns_empty {w : World} {g : Nat} {e : TypeId} (h : Blk w g e []) {base size : Nat} (hb : base ≤ g) : w.ownsRow base e size (.slice (some ⟨g, 0, none⟩) 0 0) 0 [] :=
  ⟨by simp, .inr ⟨g, 0, #[], rfl, hb, h, Nat.le_refl _, by simp, by simp, by simp⟩⟩
end
end Go


namespace Go.Proofs.YtilacamhjibneaaDoor
open Go.RowKit


theorem IntsAt.chg {S : Nat → Prop} {w w' : World} {b off : Nat} {l : List Int} (h : IntsAt w b off l) (hc : Chg S w w') (hn : ¬ S b) : IntsAt w' b off l := fun k hk => hc.cell_some (h k hk) hn

theorem info3 : (Tryd.prog.info? 3).map (fun i => (i.zero, i.size, i.bytes)) = some (some (.int .i64 0), 1, 8) := by kernel_rfl

theorem add_plain (b o j : Nat) : (⟨b, o, none⟩ : Addr).add j = ⟨b, o + j, none⟩ := by unfold Addr.add; split <;> simp_all

theorem owns_ints {w : World} {base : Nat} {v : Value} {n : Nat} {X : List Int} (h : w.ownsRow base 3 1 v n (X.map (Value.int .i64))) (hX : X ≠ []) :
    ∃ g c, v = .slice (some ⟨g, 0, none⟩) X.length c ∧ base ≤ g ∧ g < w.heap.size ∧ IntsAt w g 0 X ∧ X.length ≤ c := by
  have hlen := h.1
  rcases h.2 with ⟨rfl, rfl⟩ | ⟨g, c, cur, rfl, hb, hg, hn, hc, hsz, htk⟩
  · simp at hlen; exact absurd hlen hX
  · have hl : n = X.length := by simpa using hlen.symm
    subst hl
    refine ⟨g, c, rfl, hb, (Array.getElem?_eq_some_iff.1 hg).1, fun k hk => ?_, hn⟩
    have := h.cells (g := g) rfl k (.int .i64 X[k]) (by simp [hk])
    rw [add_plain] at this
    exact this

theorem Chg.of_grown {w w' : World} (h : w.grownBy w' none) : Chg (fun _ => False) w w' := ⟨h.os, h.tape, h.output, h.size, fun k hk _ => h.block k hk (by simp)⟩

theorem wrap64_small {z : Int} (h0 : 0 ≤ z) (h1 : z ≤ 2000000) : wrap64 z = z := by
  unfold wrap64
  omega

theorem grow_chg (w : World) (x : Ext) : Chg (fun _ => False) w (w.grow x) := (Chg.refl _ w).grow x

theorem wrap64_nat (x : Nat) (h : x < 9223372036854775808) : wrap64 (x : Int) = x := by
  unfold wrap64
  omega

theorem i64_and_nat (a b : Nat) (ha : a < 9223372036854775808) (hb : b < 9223372036854775808) : bits .and .i64 (a : Int) (b : Int) = ((a &&& b : Nat) : Int) := by
  have hx : a &&& b < 2 ^ 63 := Nat.and_lt_two_pow _ (by omega)
  show IntKind.i64.wrap ((BitVec.ofInt 64 (a : Int) &&& BitVec.ofInt 64 (b : Int)).toNat : Int) = _
  rw [BitVec.toNat_and, ofInt_u64 a (by omega), ofInt_u64 b (by omega)]
  rw [IntKind.wrap_i64]
  omega

theorem i64_or_nat (a b : Nat) (ha : a < 9223372036854775808) (hb : b < 9223372036854775808) : bits .or .i64 (a : Int) (b : Int) = ((a ||| b : Nat) : Int) := by
  have hx : a ||| b < 2 ^ 63 := Nat.or_lt_two_pow (by omega) (by omega)
  show IntKind.i64.wrap ((BitVec.ofInt 64 (a : Int) ||| BitVec.ofInt 64 (b : Int)).toNat : Int) = _
  rw [BitVec.toNat_or, ofInt_u64 a (by omega), ofInt_u64 b (by omega)]
  rw [IntKind.wrap_i64]
  omega

theorem i64_pow {c : Nat} (hc : c < 62) : wrap64 ((2 : Int) ^ c) = ((2 ^ c : Nat) : Int) := by
  have h1 : 2 ^ c < 2 ^ 62 := Nat.pow_lt_pow_right (by omega) hc
  rw [show (2 : Int) ^ c = ((2 ^ c : Nat) : Int) by simp]
  exact wrap64_nat _ (by omega)

/-- The shape of what owns n > 0 elements. -/
theorem owns_form {w : World} {base : Nat} {e : TypeId} {sz : Nat} {v : Value} {n : Nat} {xs : List Value} (h : w.ownsRow base e sz v n xs) :
    ∃ ao c, v = .slice ao n c ∧ (0 < n → ∃ g, ao = some ⟨g, 0, none⟩ ∧ base ≤ g ∧ g < w.heap.size ∧ ∀ j u, xs[j]? = some u → w.cell? ⟨g, j, none⟩ = some u) := by
  rcases h.2 with ⟨rfl, rfl⟩ | ⟨g, c, cur, rfl, hb, hg, hn, hc, hsz, htk⟩
  · exact ⟨none, 0, rfl, fun h => absurd h (by omega)⟩
  · refine ⟨_, c, rfl, fun _ => ⟨g, rfl, hb, (Array.getElem?_eq_some_iff.1 hg).1, fun j u hu => ?_⟩⟩
    have := h.cells (g := g) rfl j u hu
    rwa [add_plain, Nat.zero_add] at this

theorem Chg.of_grownRow {w w' : World} {row : Option Nat} (h : w.grownBy w' row) : Chg (fun k => some k = row) w w' := ⟨h.os, h.tape, h.output, h.size, fun k hk hn => h.block k hk hn⟩

theorem owns_chg {w w' : World} {base : Nat} {e : TypeId} {sz : Nat} {v : Value} {n : Nat} {xs : List Value} (h : w.ownsRow base e sz v n xs) (hc : Chg (fun _ => False) w w') : w'.ownsRow base e sz v n xs :=
  h.kept (row := none) ⟨hc.os, hc.tape, hc.output, hc.size, fun k hk _ => hc.block k hk (fun x => x)⟩ (by cases v.ownBlock <;> simp)

theorem owns_list {w : World} {base : Nat} {v : Value} {n : Nat} {X : List Int} (h : w.ownsRow base 3 1 v n (X.map (Value.int .i64))) :
    ∃ ao g c, v = .slice ao X.length c ∧ (X = [] ∨ ao = some ⟨g, 0, none⟩) ∧ IntsAt w g 0 X ∧ base ≤ g := by
  by_cases hX : X = []
  · subst hX
    obtain ⟨ao, c, rfl, _⟩ := owns_form h
    have hn : n = 0 := by simpa using h.1.symm
    subst hn
    exact ⟨ao, base, c, rfl, .inl rfl, fun k hk => by simp at hk, Nat.le_refl _⟩
  · obtain ⟨g, c, rfl, h1, h2, h3, _⟩ := owns_ints h hX
    exact ⟨_, g, c, rfl, .inr rfl, h3, h1⟩

theorem owns_keep {S : Nat → Prop} {w w' : World} {base : Nat} {e : TypeId} {sz : Nat} {v : Value} {n : Nat} {xs : List Value} (h : w.ownsRow base e sz v n xs) (hc : Chg S w w') (hS : ∀ k, v.ownBlock = some k → ¬ S k) : w'.ownsRow base e sz v n xs := by
  refine ⟨h.1, ?_⟩
  rcases h.2 with hn | ⟨g, cap, cur, rfl, hb, hgg, rest⟩
  · exact .inl hn
  · refine .inr ⟨g, cap, cur, rfl, hb, ?_, rest⟩
    rw [hc.block g (Array.getElem?_eq_some_iff.1 hgg).1 (hS g rfl)]
    exact hgg

theorem set_same {α : Type} {L : List α} {k : Nat} {x : α} (h : L[k]? = some x) : L.set k x = L := by
  apply List.ext_getElem?
  intro i
  rw [List.getElem?_set]
  by_cases hk : k = i
  · subst hk
    rw [if_pos rfl, h, if_pos (List.getElem?_eq_some_iff.1 h).1]
  · rw [if_neg hk]

theorem grow_alloc (w : World) (x : Ext) (o : Obj) : ∃ z, (w.grow x).alloc o = w.grow z :=
  World.grow_of_below ((World.grow_below w x).alloc (World.grow_below w x).size o)

theorem grow_alloc0 (w : World) (o : Obj) : ∃ z, w.alloc o = w.grow z :=
  World.grow_of_below ((Below.refl _ w).alloc (Nat.le_refl _) o)

theorem grow_alloc_drewN (w : World) (o : Obj) (n : Nat) : ∃ z, (w.alloc o).drewN n = w.grow z := by
  obtain ⟨z, hz⟩ := grow_alloc0 w o
  obtain ⟨y, hy⟩ := (w.alloc o).grow_drewN n
  rw [hz] at hy ⊢
  rw [hy]
  exact World.grow_grow _ _ _

end Go.Proofs.YtilacamhjibneaaDoor
