/- Texts on the vines, laid together (Base, V1, V2, V3, V4, V5, V6, V7). Their conditions are their premises. -/
import Derived.Test.YtilacamhjibneaaDoorRows
import Derived.WalkKit
import Derived.WalkLawsBesides
import Derived.WalkSpells
import Derived.LoopTactic
import Derived.Deep.LoopGhost
import Derived.BigQuiet
import Derived.BigGuardPart
import Derived.Deep.QuietTactic
import Derived.Deep.RegionWith
import Derived.StillTailTactics
import Derived.Deep.DeepCutAuto
import Derived.Deep.DeepFit
import Derived.Outline
import Derived.Below
import Derived.Lib.Hide
import Derived.ArgAppend
import Derived.Lib.LazyBuf
import Derived.WalkMore
import Derived.Deep.RegionLawGrows
import Derived.Laws.BitsAllLaws
import Derived.Laws.MakeOwn
import Derived.IntWalk
set_option linter.unusedVariables false
/- Plain lemmas on worlds that grow, on blocks, on slices of the call's own. No condition. -/
namespace Go
/-- What a call adds: new blocks, and how far the tape has been drawn. -/
structure Ext where
  blocks : Array Obj
  drawn : Nat

/-- The world with new blocks behind its own. -/
def World.grow (w : World) (x : Ext) : World := { w with heap := w.heap ++ x.blocks, drawn := x.drawn }

namespace World
theorem grow_block (w : World) (x : Ext) {k : Nat} (h : k < w.heap.size) : (w.grow x).heap[k]? = w.heap[k]? := by
  show (w.heap ++ x.blocks)[k]? = _
  rw [Array.getElem?_append_left h]

theorem cell_lt {w : World} {a : Addr} {v : Value} (h : w.cell? a = some v) : a.block < w.heap.size := by
  unfold World.cell? at h
  by_cases hb : a.block < w.heap.size
  · exact hb
  · rw [Array.getElem?_eq_none (by omega)] at h
    cases h

theorem grow_cell {w : World} {a : Addr} {v : Value} (h : w.cell? a = some v) : ∀ x, (w.grow x).cell? a = some v := fun x => by
  rw [← h]
  exact World.cell?_of_block (w := w) (w.grow_block x (cell_lt h))

theorem grow_frozen {w : World} {a : Addr} (h : a.block < w.heap.size) : ∀ x, (w.grow x).frozen? a = w.frozen? a := fun x =>
  World.frozen?_of_block (w := w) (w.grow_block x h)

theorem grow_below (w : World) (x : Ext) : RowKit.Below w.heap.size w (w.grow x) :=
  ⟨rfl, rfl, rfl, by show _ ≤ (w.heap ++ x.blocks).size; simp, fun k hk => w.grow_block x hk⟩

theorem grow_of_below {w w' : World} (h : RowKit.Below w.heap.size w w') : ∃ x, w' = w.grow x := by
  refine ⟨⟨w'.heap.extract w.heap.size w'.heap.size, w'.drawn⟩, ?_⟩
  cases w' with
  | mk heap tape drawn os output =>
    have h1 := h.os; have h2 := h.tape; have h3 := h.output; have h4 := h.size; have h5 := h.block
    simp only at h1 h2 h3 h4 h5
    subst h1 h2 h3
    unfold World.grow
    congr 1
    apply Array.ext_getElem?
    intro i
    by_cases hi : i < w.heap.size
    · rw [h5 i hi, Array.getElem?_append_left hi]
    · rw [Array.getElem?_append_right (by omega), Array.getElem?_extract]
      dsimp only
      by_cases h6 : i < heap.size
      · rw [if_pos (by omega)]; congr 1; omega
      · rw [if_neg (by omega), Array.getElem?_eq_none (by omega)]

theorem grow_drewN (w : World) (n : Nat) : ∃ x, w.drewN n = w.grow x := grow_of_below ⟨rfl, rfl, rfl, Nat.le_refl _, fun _ _ => rfl⟩
theorem grow_grow (w : World) (x y : Ext) : ∃ z, (w.grow x).grow y = w.grow z :=
  grow_of_below ((grow_below w x).trans ((grow_below _ y).mono (grow_below w x).size))
theorem grow_refl (w : World) : ∃ z, w = w.grow z := grow_of_below (RowKit.Below.refl _ _)
end World

theorem wp_region_grow_lit {P : Program} {id : Nat} {Q : Exit → Act → World → Prop} {a : Act} {w : World} {l : List Oper} (hm : P.follows .mixedOrders = true) (hB : Region.lexB .any l.toArray = true)
    (h : wpQuiet P l.toArray (fun w' => ∃ x, w' = w.grow x) (fun a' => ∀ w', (∃ x, w' = w.grow x) → Q .normal a' w') l a) : (Code.region id l.toArray true).wp P Q a w :=
  wp_region_quiet (C := fun w' => ∃ x, w' = w.grow x) hm hB (World.grow_drewN w 1) (by simpa using h)

theorem Calls.grow_of {P : Program} {f : FuncId} {args : Array Value} {w : World} {x : Ext} {v : Value}
    (h : Calls P f args (w.grow x) fun e w' => e = .returned v ∧ ∃ y, w' = (w.grow x).grow y) : Calls P f args (w.grow x) fun e w'' => e = .returned v ∧ ∃ y, w'' = w.grow y :=
  h.mono fun _ _ ⟨he, y, hy⟩ => ⟨he, by obtain ⟨z, hz⟩ := w.grow_grow x y; exact ⟨z, by rw [hy, hz]⟩⟩
end Go

namespace Go.Proofs.YtilacamhjibneaaDoor
open Go.RowKit

theorem ret_int {k : IntKind} {a b : Int} (h : a = b) : Ending.returned (.int k a) = .returned (.int k b) := by rw [h]
theorem ret_bool {a b : Bool} (h : a = b) : Ending.returned (.bool a) = .returned (.bool b) := by rw [h]
theorem i64_of {n : Int} (h : (Lit.int .i64 n).wf = true) : -9223372036854775808 ≤ n ∧ n ≤ 9223372036854775807 := by
  simpa [Lit.wf, IntKind.min, IntKind.max, IntKind.signed, IntKind.bits] using h



def I64 (n : Int) : Prop := -9223372036854775808 ≤ n ∧ n ≤ 9223372036854775807
/-- The cells of a list of whole numbers. -/
def IntsAt (w : World) (b off : Nat) (xs : List Int) : Prop := ∀ k (h : k < xs.length), w.cell? ⟨b, off + k, none⟩ = some (.int .i64 xs[k])
end Go.Proofs.YtilacamhjibneaaDoor


namespace Go
/-- Block B is the cells 'vals', none of them frozen. -/
def Blk (w : World) (B : Nat) (e : TypeId) (vals : List Value) : Prop := w.heap[B]? = some (.cells vals.toArray e (0, 0))

namespace Blk
variable {w : World} {B : Nat} {e : TypeId} {vals : List Value}

theorem lt (h : Blk w B e vals) : B < w.heap.size := by
  unfold Blk at h
  exact (Array.getElem?_eq_some_iff.1 h).1

theorem cell (h : Blk w B e vals) (i : Nat) : w.cell? ⟨B, i, none⟩ = vals[i]? := by
  unfold Blk at h
  simp [World.cell?, h]

theorem cell_some (h : Blk w B e vals) {i : Nat} {v : Value} (hv : vals[i]? = some v) : w.cell? ⟨B, i, none⟩ = some v := by rw [h.cell, hv]

theorem free (h : Blk w B e vals) (i : Nat) : w.frozen? ⟨B, i, none⟩ = false := by
  unfold Blk at h
  simp [World.frozen?, h]

theorem set (h : Blk w B e vals) (i : Nat) (v : Value) : Blk (w.setCell ⟨B, i, none⟩ v) B e (vals.set i v) := by
  unfold Blk at *
  simp only [World.setCell, Array.getElem?_modify, if_true, h, Option.map_some, Option.isSome_none, Bool.false_eq_true, if_false]
  simp

theorem setOther (h : Blk w B e vals) {a : Addr} (ha : a.block ≠ B) (v : Value) : Blk (w.setCell a v) B e vals := by
  unfold Blk at *
  rw [RowKit.Below.heap_setCell _ _ _ _ (Ne.symm ha), h]

theorem of_same (h : Blk w B e vals) {w' : World} (hh : w'.heap[B]? = w.heap[B]?) : Blk w' B e vals := by
  unfold Blk at *
  rw [hh, h]

theorem alloc (h : Blk w B e vals) (o : Obj) : Blk (w.alloc o) B e vals := h.of_same (RowKit.Below.heap_alloc _ _ _ h.lt)
theorem drew (h : Blk w B e vals) : Blk w.drew B e vals := h
theorem drewN (h : Blk w B e vals) (n : Nat) : Blk (w.drewN n) B e vals := h
theorem grow (h : Blk w B e vals) (x : Ext) : Blk (w.grow x) B e vals := h.of_same (w.grow_block x h.lt)
theorem below {B' : Nat} (h : Blk w B e vals) {w' : World} (hb : RowKit.Below B' w w') (hB : B < B') : Blk w' B e vals := h.of_same (hb.block B hB)
end Blk

theorem Blk.new (w : World) (arr : Array Value) (e : TypeId) : Blk (w.alloc (.cells arr e)) w.heap.size e arr.toList := by
  show (w.heap.push _)[w.heap.size]? = _
  simp

namespace RowKit
theorem Below.drewN {B : Nat} {a w : World} (h : Below B a w) (n : Nat) : Below B a (w.drewN n) := ⟨h.os, h.tape, h.output, h.size, h.block⟩
theorem Below.grow {B : Nat} {a w : World} (h : Below B a w) (hB : B ≤ w.heap.size) (x : Ext) : Below B a (w.grow x) := h.trans ((World.grow_below w x).mono hB)
theorem Below.le {B : Nat} {a w : World} (h : Below B a w) (hB : B ≤ a.heap.size) : B ≤ w.heap.size := Nat.le_trans hB h.size
end RowKit
end Go


namespace Go
/-- Nothing but blocks of S and new ones have changed. -/
structure Chg (S : Nat → Prop) (w w' : World) : Prop where
  os : w'.os = w.os
  tape : w'.tape = w.tape
  output : w'.output = w.output
  size : w.heap.size ≤ w'.heap.size
  block : ∀ k, k < w.heap.size → ¬ S k → w'.heap[k]? = w.heap[k]?

namespace Chg
variable {S : Nat → Prop} {w w' w'' : World}
theorem refl (S : Nat → Prop) (w : World) : Chg S w w := ⟨rfl, rfl, rfl, Nat.le_refl _, fun _ _ _ => rfl⟩
theorem trans {S' : Nat → Prop} (h : Chg S w w') (k : Chg S' w' w'') (hS : ∀ b, S' b → S b ∨ w.heap.size ≤ b) : Chg S w w'' :=
  ⟨k.os.trans h.os, k.tape.trans h.tape, k.output.trans h.output, Nat.le_trans h.size k.size, fun b hb hn => by
    rw [k.block b (Nat.lt_of_lt_of_le hb h.size) (fun hs => (hS b hs).elim hn (by omega)), h.block b hb hn]⟩
theorem mono {S' : Nat → Prop} (h : Chg S w w') (hS : ∀ b, S b → S' b) : Chg S' w w' := ⟨h.os, h.tape, h.output, h.size, fun b hb hn => h.block b hb fun hs => hn (hS b hs)⟩
theorem of_below (h : RowKit.Below w.heap.size w w') : Chg S w w' := ⟨h.os, h.tape, h.output, h.size, fun b hb _ => h.block b hb⟩
theorem below (h : Chg (fun _ => False) w w') : RowKit.Below w.heap.size w w' := ⟨h.os, h.tape, h.output, h.size, fun b hb => h.block b hb (fun x => x)⟩
theorem alloc (h : Chg S w w') (o : Obj) : Chg S w (w'.alloc o) := h.trans (of_below (S := fun _ => False) ((RowKit.Below.refl _ _).alloc (Nat.le_refl _) o)) (fun _ x => x.elim)
theorem drewN (h : Chg S w w') (n : Nat) : Chg S w (w'.drewN n) := ⟨h.os, h.tape, h.output, h.size, h.block⟩
theorem drew (h : Chg S w w') : Chg S w w'.drew := ⟨h.os, h.tape, h.output, h.size, h.block⟩
theorem grow (h : Chg S w w') (x : Ext) : Chg S w (w'.grow x) := h.trans (of_below (S := fun _ => False) (w'.grow_below x)) (fun _ x => x.elim)
theorem setCell (h : Chg S w w') {a : Addr} (ha : S a.block ∨ w.heap.size ≤ a.block) (v : Value) : Chg S w (w'.setCell a v) :=
  ⟨h.os, h.tape, h.output, by simpa [World.setCell] using h.size, fun b hb hn => by
    rw [RowKit.Below.heap_setCell _ _ _ _ (fun e => by subst e; exact ha.elim hn (by omega)), h.block b hb hn]⟩
theorem setRow (h : Chg S w w') {g : Nat} (hg : S g ∨ w.heap.size ≤ g) (cs : Array Value) : Chg S w (w'.setRow g cs) :=
  ⟨h.os, h.tape, h.output, by simpa using h.size, fun b hb hn => by
    rw [setRow_other _ _ _ _ (fun e => by subst e; exact hg.elim hn (by omega)), h.block b hb hn]⟩
theorem cell (h : Chg S w w') {p : Addr} (hp : p.block < w.heap.size) (hn : ¬ S p.block) : w'.cell? p = w.cell? p := World.cell?_of_block (w := w) (h.block _ hp hn)
theorem cell_some (h : Chg S w w') {p : Addr} {v : Value} (hv : w.cell? p = some v) (hn : ¬ S p.block) : w'.cell? p = some v := (h.cell (World.cell_lt hv) hn).trans hv
theorem frozen (h : Chg S w w') {p : Addr} (hp : p.block < w.heap.size) (hn : ¬ S p.block) : w'.frozen? p = w.frozen? p := World.frozen?_of_block (w := w) (h.block _ hp hn)
theorem blk (h : Chg S w w') {B : Nat} {e : TypeId} {vals : List Value} (hv : Blk w B e vals) (hn : ¬ S B) : Blk w' B e vals := hv.of_same (h.block _ hv.lt hn)
end Chg
end Go


namespace Go
section
variable {P : Program} {w : World}

theorem run_append_two (base : Nat) (t ty e : TypeId) (i : TypeInfo) (z : Value) (size bytes : Nat) (ht : P.underlying t = some (.slice e)) (hi : P.info? e = some i) (hz : i.zero = some z)
    (hsize : i.size = size) (hby : i.bytes = bytes) (hzs : z.cells.size = size) (hsz : 0 < size)
    (v : Value) (n : Nat) (xs : List Value) (hown : w.ownsRow base e size v n xs)
    (a : Addr) (m c : Nat) (news : List Value) (hl : news.length = m * size) (hnews : ∀ j u, news[j]? = some u → w.cell? (a.add j) = some u) (h1 : ∀ u ∈ news, u.oneCell' = true)
    (h63 : n + m ≤ maxLen) (hbytes : (n + m) * bytes ≤ 140737488355328) (hbase : base ≤ w.heap.size) :
    ∃ v' w', (Builtin.append_ #[t, t] ty #[v, .slice (some a) m c]).run P w = .ok v' w' ∧ w'.ownsRow base e size v' (n + m) (xs ++ news) ∧ w.grownBy w' v.ownBlock ∧
      (v'.ownBlock = v.ownBlock ∨ ∃ g, w.heap.size ≤ g ∧ v'.ownBlock = some g) := by
  obtain ⟨v', w', hrun, ho, hg, _⟩ := run_append_own (P := P) w base t ty e i z size bytes ht hi hz hsize hby hzs hsz v n xs hown a m c news hl hnews h1 h63 hbytes hbase
  refine ⟨v', w', hrun, ho, hg, ?_⟩
  rcases hown.2 with ⟨rfl, rfl⟩ | ⟨g, cap, cur, rfl, hb, hgg, hn, hc, hs, htk⟩
  · obtain ⟨v2, w2, hrun2, ho2, _, _⟩ := run_append_own (P := P) w w.heap.size t ty e i z size bytes ht hi hz hsize hby hzs hsz (.slice none 0 0) 0 [] (World.ownsRow_nil w _ e size) a m c news hl hnews h1 h63 hbytes (Nat.le_refl _)
    rw [hrun2] at hrun
    cases hrun
    cases hv : v'.ownBlock with
    | none => exact .inl rfl
    | some g => exact .inr ⟨g, (ho2.lt g hv).1, rfl⟩
  · by_cases hroom : n + m ≤ cap
    · subst hsize
      have hcell : ∀ j, j < news.length → (w.cell? ⟨g, 0 + n * i.size + j, none⟩).isSome = true ∧ w.frozen? ⟨g, 0 + n * i.size + j, none⟩ = false := fun j hj => by
        have hlt : 0 + n * i.size + j < cur.size := by
          rw [hs, hl] at *
          have : (n + m) * i.size ≤ cap * i.size := Nat.mul_le_mul_right _ hroom
          rw [Nat.add_mul] at this
          omega
        constructor
        · simp [World.cell?, hgg]; omega
        · simp [World.frozen?, hgg]
      have hrun2 := run_append_room_cells (P := P) w t ty e i ht hi g 0 n cap a m c news hl hnews h1 hroom (fun j hj => (hcell j hj).1) (fun j hj => (hcell j hj).2)
      rw [hrun2] at hrun
      cases hrun
      exact .inl rfl
    · have holds : ∀ j u, xs[j]? = some u → w.cell? ((⟨g, 0, none⟩ : Addr).add j) = some u := hown.cells rfl
      obtain ⟨v2, w2, hrun2, ho2, _⟩ := run_append_arg_grows (P := P) w t ty e i z size bytes ht hi hz hsize hby hzs hsz ⟨g, 0, none⟩ n cap xs hown.1 holds a m c news hl hnews (by omega) h63 hbytes
      rw [hrun2] at hrun
      cases hrun
      cases hv : v'.ownBlock with
      | none =>
        rcases ho2.2 with ⟨rfl, h0⟩ | ⟨g2, c2, cur2, rfl, _⟩
        · exfalso; omega
        · simp [Value.ownBlock] at hv
      | some g2 => exact .inr ⟨g2, (ho2.lt g2 hv).1, rfl⟩

theorem wpList_append_two {ops : Array Oper} {rest : List Oper} {o : Oper} {a : Act} {Q : Exit → Act → World → Prop} (hgd : o.guard = none) (s x : Operand) (t : TypeId)
    (ho : o.op = .call { callee := .builtin .append, args := #[s, x], argTypes := #[t, t] })
    (base : Nat) (e : TypeId) (i : TypeInfo) (z : Value) (size bytes : Nat) (ht : P.underlying t = some (.slice e)) (hi : P.info? e = some i) (hz : i.zero = some z)
    (hsize : i.size = size) (hby : i.bytes = bytes) (hzs : z.cells.size = size) (hsz : 0 < size)
    (v : Value) (n : Nat) (xs : List Value) (hs : a.eval s = v) (hown : w.ownsRow base e size v n xs)
    (ad : Addr) (m c : Nat) (news : List Value) (hx : a.eval x = .slice (some ad) m c) (hl : news.length = m * size) (hnews : ∀ j u, news[j]? = some u → w.cell? (ad.add j) = some u) (h1 : ∀ u ∈ news, u.oneCell' = true)
    (h63 : n + m ≤ maxLen) (hbytes : (n + m) * bytes ≤ 140737488355328) (hbase : base ≤ w.heap.size)
    (h : ∀ v' w', w'.ownsRow base e size v' (n + m) (xs ++ news) → w.grownBy w' v.ownBlock → (v'.ownBlock = v.ownBlock ∨ ∃ g, w.heap.size ≤ g ∧ v'.ownBlock = some g) → wpList P ops Q rest (a.put o.dst v') w') : wpList P ops Q (o :: rest) a w := by
  refine wpList_step fun K hK => ?_
  rw [if_pos (by simp [Region.wanted, hgd])]
  obtain ⟨v', w', hrun, r1, r2, r3⟩ := run_append_two (P := P) base t o.type e i z size bytes ht hi hz hsize hby hzs hsz v n xs hown ad m c news hl hnews h1 h63 hbytes hbase
  unfold Oper.wp
  simp [execOp, ho, resolve, invoke, builtin, hs, hx, hrun, Result.andThen]
  exact hK _ _ (h v' w' r1 r2 r3)

theorem step_append_two {ops : Array Oper} {o : Oper} {a : Act} {K : Act → World → Prop} {Q : Exit → Act → World → Prop} {E : Prop} (hgd : o.guard = none) (s x : Operand) (t : TypeId)
    (ho : o.op = .call { callee := .builtin .append, args := #[s, x], argTypes := #[t, t] })
    (base : Nat) (e : TypeId) (i : TypeInfo) (z : Value) (size bytes : Nat) (ht : P.underlying t = some (.slice e)) (hi : P.info? e = some i) (hz : i.zero = some z)
    (hsize : i.size = size) (hby : i.bytes = bytes) (hzs : z.cells.size = size) (hsz : 0 < size)
    (v : Value) (n : Nat) (xs : List Value) (hs : a.eval s = v) (hown : w.ownsRow base e size v n xs)
    (ad : Addr) (m c : Nat) (news : List Value) (hx : a.eval x = .slice (some ad) m c) (hl : news.length = m * size) (hnews : ∀ j u, news[j]? = some u → w.cell? (ad.add j) = some u) (h1 : ∀ u ∈ news, u.oneCell' = true)
    (h63 : n + m ≤ maxLen) (hbytes : (n + m) * bytes ≤ 140737488355328) (hbase : base ≤ w.heap.size)
    (hK : ∀ v' w', w'.ownsRow base e size v' (n + m) (xs ++ news) → w.grownBy w' v.ownBlock → (v'.ownBlock = v.ownBlock ∨ ∃ g, w.heap.size ≤ g ∧ v'.ownBlock = some g) → K (a.put o.dst v') w') :
    if Region.wanted o (yielded ops a.tmps) = true then Oper.wp P o a w K Q else E := by
  rw [if_pos (by simp [Region.wanted, hgd])]
  obtain ⟨v', w', hrun, r1, r2, r3⟩ := run_append_two (P := P) base t o.type e i z size bytes ht hi hz hsize hby hzs hsz v n xs hown ad m c news hl hnews h1 h63 hbytes hbase
  unfold Oper.wp
  simp [execOp, ho, resolve, invoke, builtin, hs, hx, hrun, Result.andThen]
  exact hK v' w' r1 r2 r3
end

/-- Two slices of the call's own lie apart. -/
def Ap2 (v u : Value) : Prop := ∀ k, v.ownBlock = some k → u.ownBlock ≠ some k

theorem Ap2.symm {v u : Value} (h : Ap2 v u) : Ap2 u v := fun k h1 h2 => h k h2 h1
theorem Ap2.nil {u : Value} : Ap2 (.slice none 0 0) u := fun k h => by simp [Value.ownBlock] at h
theorem Ap2.kept {w w' : World} {v u : Value} {base : Nat} {e : TypeId} {size n : Nat} {xs : List Value} (h : Ap2 v u) (hu : w.ownsRow base e size u n xs) (hg : w.grownBy w' v.ownBlock) : w'.ownsRow base e size u n xs := by
  refine hu.kept hg ?_
  cases hb : u.ownBlock with
  | none => exact .inl rfl
  | some k => exact .inr fun he => h k he.symm hb
theorem Ap2.next {w : World} {v v' u : Value} {base : Nat} {e : TypeId} {size n : Nat} {xs : List Value} (h : Ap2 v u) (hu : w.ownsRow base e size u n xs) (hr : v'.ownBlock = v.ownBlock ∨ ∃ g, w.heap.size ≤ g ∧ v'.ownBlock = some g) : Ap2 v' u := by
  intro k h1 h2
  rcases hr with hr | ⟨g, hg, hr⟩
  · exact h k (by rw [← hr]; exact h1) h2
  · rw [hr] at h1
    cases h1
    have := (hu.lt _ h2).2
    omega
end Go


namespace Go
section
variable {P : Program} {w : World}

theorem run_append_empty (t ty e : TypeId) (i : TypeInfo) (ht : P.underlying t = some (.slice e)) (hi : P.info? e = some i) (ao : Option Addr) (n cap : Nat) (hn : n ≤ cap) (bo : Option Addr) (c : Nat) :
    (Builtin.append_ #[t, t] ty #[.slice ao n cap, .slice bo 0 c]).run P w = .ok (.slice ao n cap) w := by
  have hf : (Builtin.firstCells i.size 0 (.slice bo 0 c)).run P w = .ok #[] w := by
    cases bo with
    | none => simp [Builtin.firstCells]
    | some a =>
      have := run_loadCells_list (P := P) w a [] (fun j v h => by simp at h)
      simp [Builtin.firstCells]
      simpa using this
  cases ao with
  | none => simp [Builtin.append_, run_underlying ht, sizeOf, typeInfo, hi, Builtin.lenOf, hn, hf]
  | some a => simp [Builtin.append_, run_underlying ht, sizeOf, typeInfo, hi, Builtin.lenOf, hn, hf, storeCells]

theorem run_append_all (base : Nat) (t ty e : TypeId) (i : TypeInfo) (z : Value) (size bytes : Nat) (ht : P.underlying t = some (.slice e)) (hi : P.info? e = some i) (hz : i.zero = some z)
    (hsize : i.size = size) (hby : i.bytes = bytes) (hzs : z.cells.size = size) (hsz : 0 < size)
    (v : Value) (n : Nat) (xs : List Value) (hown : w.ownsRow base e size v n xs)
    (bo : Option Addr) (m c : Nat) (news : List Value) (hl : news.length = m * size) (hsrc : m = 0 ∨ ∃ a, bo = some a ∧ ∀ j u, news[j]? = some u → w.cell? (a.add j) = some u) (h1 : ∀ u ∈ news, u.oneCell' = true)
    (h63 : n + m ≤ maxLen) (hbytes : (n + m) * bytes ≤ 140737488355328) (hbase : base ≤ w.heap.size) :
    ∃ v' w', (Builtin.append_ #[t, t] ty #[v, .slice bo m c]).run P w = .ok v' w' ∧ w'.ownsRow base e size v' (n + m) (xs ++ news) ∧ w.grownBy w' v.ownBlock ∧
      (v'.ownBlock = v.ownBlock ∨ ∃ g, w.heap.size ≤ g ∧ v'.ownBlock = some g) := by
  rcases hsrc with rfl | ⟨a, rfl, hnews⟩
  · have hn : news = [] := List.eq_nil_of_length_eq_zero (by simpa using hl)
    subst hn
    obtain ⟨ao, cp, rfl, hcp⟩ : ∃ ao cp, v = .slice ao n cp ∧ n ≤ cp := by
      rcases hown.2 with ⟨rfl, rfl⟩ | ⟨g, cap, cur, rfl, _, _, hn, _⟩
      · exact ⟨none, 0, rfl, Nat.le_refl _⟩
      · exact ⟨_, cap, rfl, hn⟩
    refine ⟨_, w, run_append_empty t ty e i ht hi ao n cp hcp bo c, by simpa using hown, ⟨rfl, rfl, rfl, Nat.le_refl _, fun k _ _ => rfl⟩, .inl rfl⟩
  · exact run_append_two (P := P) base t ty e i z size bytes ht hi hz hsize hby hzs hsz v n xs hown a m c news hl hnews h1 h63 hbytes hbase

theorem wpList_append_all {ops : Array Oper} {rest : List Oper} {o : Oper} {a : Act} {Q : Exit → Act → World → Prop} (hgd : o.guard = none) (s x : Operand) (t : TypeId)
    (ho : o.op = .call { callee := .builtin .append, args := #[s, x], argTypes := #[t, t] })
    (base : Nat) (e : TypeId) (i : TypeInfo) (z : Value) (size bytes : Nat) (ht : P.underlying t = some (.slice e)) (hi : P.info? e = some i) (hz : i.zero = some z)
    (hsize : i.size = size) (hby : i.bytes = bytes) (hzs : z.cells.size = size) (hsz : 0 < size)
    (v : Value) (n : Nat) (xs : List Value) (hs : a.eval s = v) (hown : w.ownsRow base e size v n xs)
    (bo : Option Addr) (m c : Nat) (news : List Value) (hx : a.eval x = .slice bo m c) (hl : news.length = m * size) (hsrc : m = 0 ∨ ∃ a, bo = some a ∧ ∀ j u, news[j]? = some u → w.cell? (a.add j) = some u) (h1 : ∀ u ∈ news, u.oneCell' = true)
    (h63 : n + m ≤ maxLen) (hbytes : (n + m) * bytes ≤ 140737488355328) (hbase : base ≤ w.heap.size)
    (h : ∀ v' w', w'.ownsRow base e size v' (n + m) (xs ++ news) → w.grownBy w' v.ownBlock → (v'.ownBlock = v.ownBlock ∨ ∃ g, w.heap.size ≤ g ∧ v'.ownBlock = some g) → wpList P ops Q rest (a.put o.dst v') w') : wpList P ops Q (o :: rest) a w := by
  refine wpList_step fun K hK => ?_
  rw [if_pos (by simp [Region.wanted, hgd])]
  obtain ⟨v', w', hrun, r1, r2, r3⟩ := run_append_all (P := P) base t o.type e i z size bytes ht hi hz hsize hby hzs hsz v n xs hown bo m c news hl hsrc h1 h63 hbytes hbase
  unfold Oper.wp
  simp [execOp, ho, resolve, invoke, builtin, hs, hx, hrun, Result.andThen]
  exact hK _ _ (h v' w' r1 r2 r3)

theorem step_append_all {ops : Array Oper} {o : Oper} {a : Act} {K : Act → World → Prop} {Q : Exit → Act → World → Prop} {E : Prop} (hgd : o.guard = none) (s x : Operand) (t : TypeId)
    (ho : o.op = .call { callee := .builtin .append, args := #[s, x], argTypes := #[t, t] })
    (base : Nat) (e : TypeId) (i : TypeInfo) (z : Value) (size bytes : Nat) (ht : P.underlying t = some (.slice e)) (hi : P.info? e = some i) (hz : i.zero = some z)
    (hsize : i.size = size) (hby : i.bytes = bytes) (hzs : z.cells.size = size) (hsz : 0 < size)
    (v : Value) (n : Nat) (xs : List Value) (hs : a.eval s = v) (hown : w.ownsRow base e size v n xs)
    (bo : Option Addr) (m c : Nat) (news : List Value) (hx : a.eval x = .slice bo m c) (hl : news.length = m * size) (hsrc : m = 0 ∨ ∃ a, bo = some a ∧ ∀ j u, news[j]? = some u → w.cell? (a.add j) = some u) (h1 : ∀ u ∈ news, u.oneCell' = true)
    (h63 : n + m ≤ maxLen) (hbytes : (n + m) * bytes ≤ 140737488355328) (hbase : base ≤ w.heap.size)
    (hK : ∀ v' w', w'.ownsRow base e size v' (n + m) (xs ++ news) → w.grownBy w' v.ownBlock → (v'.ownBlock = v.ownBlock ∨ ∃ g, w.heap.size ≤ g ∧ v'.ownBlock = some g) → K (a.put o.dst v') w') :
    if Region.wanted o (yielded ops a.tmps) = true then Oper.wp P o a w K Q else E := by
  rw [if_pos (by simp [Region.wanted, hgd])]
  obtain ⟨v', w', hrun, r1, r2, r3⟩ := run_append_all (P := P) base t o.type e i z size bytes ht hi hz hsize hby hzs hsz v n xs hown bo m c news hl hsrc h1 h63 hbytes hbase
  unfold Oper.wp
  simp [execOp, ho, resolve, invoke, builtin, hs, hx, hrun, Result.andThen]
  exact hK v' w' r1 r2 r3

/-- A new block of no cells is an empty row. -/
theorem owns_empty {w : World} {g : Nat} {e : TypeId} (h : Blk w g e []) {base size : Nat} (hb : base ≤ g) : w.ownsRow base e size (.slice (some ⟨g, 0, none⟩) 0 0) 0 [] :=
  ⟨by simp, .inr ⟨g, 0, #[], rfl, hb, h, Nat.le_refl _, by simp, by simp, by simp⟩⟩
end
end Go


namespace Go.Proofs.YtilacamhjibneaaDoor
open Go.RowKit


theorem IntsAt.chg {S : Nat → Prop} {w w' : World} {b off : Nat} {l : List Int} (h : IntsAt w b off l) (hc : Chg S w w') (hn : ¬ S b) : IntsAt w' b off l := fun k hk => hc.cell_some (h k hk) hn

theorem info3 : (Tryd.prog.info? 3).map (fun i => (i.zero, i.size, i.bytes)) = some (some (.int .i64 0), 1, 8) := by kernel_rfl

theorem add_plain (b o j : Nat) : (⟨b, o, none⟩ : Addr).add j = ⟨b, o + j, none⟩ := by unfold Addr.add; split <;> simp_all

theorem owns_ints {w : World} {base : Nat} {v : Value} {n : Nat} {X : List Int} (h : w.ownsRow base 3 1 v n (X.map (Value.int .i64))) (hX : X ≠ []) :
    ∃ g c, v = .slice (some ⟨g, 0, none⟩) X.length c ∧ base ≤ g ∧ g < w.heap.size ∧ IntsAt w g 0 X ∧ X.length ≤ c := by
  have hlen := h.1
  rcases h.2 with ⟨rfl, rfl⟩ | ⟨g, c, cur, rfl, hb, hg, hn, hc, hsz, htk⟩
  · simp at hlen; exact absurd hlen hX
  · have hl : n = X.length := by simpa using hlen.symm
    subst hl
    refine ⟨g, c, rfl, hb, (Array.getElem?_eq_some_iff.1 hg).1, fun k hk => ?_, hn⟩
    have := h.cells (g := g) rfl k (.int .i64 X[k]) (by simp [hk])
    rw [add_plain] at this
    exact this

theorem Chg.of_grown {w w' : World} (h : w.grownBy w' none) : Chg (fun _ => False) w w' := ⟨h.os, h.tape, h.output, h.size, fun k hk _ => h.block k hk (by simp)⟩

theorem wrap64_small {z : Int} (h0 : 0 ≤ z) (h1 : z ≤ 2000000) : wrap64 z = z := by
  unfold wrap64
  omega

theorem grow_chg (w : World) (x : Ext) : Chg (fun _ => False) w (w.grow x) := (Chg.refl _ w).grow x

theorem wrap64_nat (x : Nat) (h : x < 9223372036854775808) : wrap64 (x : Int) = x := by
  unfold wrap64
  omega

theorem i64_and_nat (a b : Nat) (ha : a < 9223372036854775808) (hb : b < 9223372036854775808) : bits .and .i64 (a : Int) (b : Int) = ((a &&& b : Nat) : Int) := by
  have hx : a &&& b < 2 ^ 63 := Nat.and_lt_two_pow _ (by omega)
  show IntKind.i64.wrap ((BitVec.ofInt 64 (a : Int) &&& BitVec.ofInt 64 (b : Int)).toNat : Int) = _
  rw [BitVec.toNat_and, ofInt_u64 a (by omega), ofInt_u64 b (by omega)]
  rw [IntKind.wrap_i64]
  omega

theorem i64_or_nat (a b : Nat) (ha : a < 9223372036854775808) (hb : b < 9223372036854775808) : bits .or .i64 (a : Int) (b : Int) = ((a ||| b : Nat) : Int) := by
  have hx : a ||| b < 2 ^ 63 := Nat.or_lt_two_pow (by omega) (by omega)
  show IntKind.i64.wrap ((BitVec.ofInt 64 (a : Int) ||| BitVec.ofInt 64 (b : Int)).toNat : Int) = _
  rw [BitVec.toNat_or, ofInt_u64 a (by omega), ofInt_u64 b (by omega)]
  rw [IntKind.wrap_i64]
  omega

theorem i64_pow {c : Nat} (hc : c < 62) : wrap64 ((2 : Int) ^ c) = ((2 ^ c : Nat) : Int) := by
  have h1 : 2 ^ c < 2 ^ 62 := Nat.pow_lt_pow_right (by omega) hc
  rw [show (2 : Int) ^ c = ((2 ^ c : Nat) : Int) by simp]
  exact wrap64_nat _ (by omega)

/-- The shape of what owns n > 0 elements. -/
theorem owns_form {w : World} {base : Nat} {e : TypeId} {sz : Nat} {v : Value} {n : Nat} {xs : List Value} (h : w.ownsRow base e sz v n xs) :
    ∃ ao c, v = .slice ao n c ∧ (0 < n → ∃ g, ao = some ⟨g, 0, none⟩ ∧ base ≤ g ∧ g < w.heap.size ∧ ∀ j u, xs[j]? = some u → w.cell? ⟨g, j, none⟩ = some u) := by
  rcases h.2 with ⟨rfl, rfl⟩ | ⟨g, c, cur, rfl, hb, hg, hn, hc, hsz, htk⟩
  · exact ⟨none, 0, rfl, fun h => absurd h (by omega)⟩
  · refine ⟨_, c, rfl, fun _ => ⟨g, rfl, hb, (Array.getElem?_eq_some_iff.1 hg).1, fun j u hu => ?_⟩⟩
    have := h.cells (g := g) rfl j u hu
    rwa [add_plain, Nat.zero_add] at this

theorem Chg.of_grownRow {w w' : World} {row : Option Nat} (h : w.grownBy w' row) : Chg (fun k => some k = row) w w' := ⟨h.os, h.tape, h.output, h.size, fun k hk hn => h.block k hk hn⟩

theorem owns_chg {w w' : World} {base : Nat} {e : TypeId} {sz : Nat} {v : Value} {n : Nat} {xs : List Value} (h : w.ownsRow base e sz v n xs) (hc : Chg (fun _ => False) w w') : w'.ownsRow base e sz v n xs :=
  h.kept (row := none) ⟨hc.os, hc.tape, hc.output, hc.size, fun k hk _ => hc.block k hk (fun x => x)⟩ (by cases v.ownBlock <;> simp)

theorem owns_list {w : World} {base : Nat} {v : Value} {n : Nat} {X : List Int} (h : w.ownsRow base 3 1 v n (X.map (Value.int .i64))) :
    ∃ ao g c, v = .slice ao X.length c ∧ (X = [] ∨ ao = some ⟨g, 0, none⟩) ∧ IntsAt w g 0 X ∧ base ≤ g := by
  by_cases hX : X = []
  · subst hX
    obtain ⟨ao, c, rfl, _⟩ := owns_form h
    have hn : n = 0 := by simpa using h.1.symm
    subst hn
    exact ⟨ao, base, c, rfl, .inl rfl, fun k hk => by simp at hk, Nat.le_refl _⟩
  · obtain ⟨g, c, rfl, h1, h2, h3, _⟩ := owns_ints h hX
    exact ⟨_, g, c, rfl, .inr rfl, h3, h1⟩

theorem owns_keep {S : Nat → Prop} {w w' : World} {base : Nat} {e : TypeId} {sz : Nat} {v : Value} {n : Nat} {xs : List Value} (h : w.ownsRow base e sz v n xs) (hc : Chg S w w') (hS : ∀ k, v.ownBlock = some k → ¬ S k) : w'.ownsRow base e sz v n xs := by
  refine ⟨h.1, ?_⟩
  rcases h.2 with hn | ⟨g, cap, cur, rfl, hb, hgg, rest⟩
  · exact .inl hn
  · refine .inr ⟨g, cap, cur, rfl, hb, ?_, rest⟩
    rw [hc.block g (Array.getElem?_eq_some_iff.1 hgg).1 (hS g rfl)]
    exact hgg

theorem set_same {α : Type} {L : List α} {k : Nat} {x : α} (h : L[k]? = some x) : L.set k x = L := by
  apply List.ext_getElem?
  intro i
  rw [List.getElem?_set]
  by_cases hk : k = i
  · subst hk
    rw [if_pos rfl, h, if_pos (List.getElem?_eq_some_iff.1 h).1]
  · rw [if_neg hk]

theorem grow_alloc (w : World) (x : Ext) (o : Obj) : ∃ z, (w.grow x).alloc o = w.grow z :=
  World.grow_of_below ((World.grow_below w x).alloc (World.grow_below w x).size o)

theorem grow_alloc0 (w : World) (o : Obj) : ∃ z, w.alloc o = w.grow z :=
  World.grow_of_below ((Below.refl _ w).alloc (Nat.le_refl _) o)

theorem grow_alloc_drewN (w : World) (o : Obj) (n : Nat) : ∃ z, (w.alloc o).drewN n = w.grow z := by
  obtain ⟨z, hz⟩ := grow_alloc0 w o
  obtain ⟨y, hy⟩ := (w.alloc o).grow_drewN n
  rw [hz] at hy ⊢
  rw [hy]
  exact World.grow_grow _ _ _

end Go.Proofs.YtilacamhjibneaaDoor

/- Strings of letters: shoots and Letters. Their conditions are their premises. -/
namespace Go.Proofs.YtilacamhjibneaaDoor
open Go.RowKit

def byteAt (s : ByteArray) (i : Nat) : Nat := (s.data.toList[i]?.getD 0).toNat
theorem byteAt_lt (s : ByteArray) (i : Nat) : byteAt s i < 256 := UInt8.toNat_lt _
theorem index_byte (s : ByteArray) {i : Nat} (h : i < s.size) (w : World) : (Instr.index 9 (.string s) (.int .i64 (i : Int))).run Tryd.prog w = .ok (.int .u8 (byteAt s i : Int)) w := by
  rw [run_index_string w 9 _ .i64 _ Tryd.underlying9, dif_pos ⟨by omega, by omega⟩]
  have h' : i < s.data.toList.length := by simpa using h
  congr 2
  unfold byteAt
  rw [List.getElem?_eq_getElem h']
  simp [ByteArray.getElem_eq_getElem_data]

/-- Is a byte one of the first n letters? -/
def okC (n c : Nat) : Bool := decide (97 ≤ c) && decide (c < 97 + n)
def okT (n : Nat) (s : ByteArray) : Nat → Bool
  | 0 => true
  | k + 1 => okT n s k && okC n (byteAt s k)
def okS (n : Nat) (s : ByteArray) : Bool := okT n s s.size
theorem okT_at {n : Nat} {s : ByteArray} : ∀ {k : Nat}, okT n s k = true → ∀ i, i < k → okC n (byteAt s i) = true
  | 0, _, i, hi => by omega
  | k + 1, h, i, hi => by
    rw [okT, Bool.and_eq_true] at h
    by_cases hk : i = k
    · subst hk; exact h.2
    · exact okT_at h.1 i (by omega)
theorem okT_bad {n : Nat} {s : ByteArray} {i : Nat} (hb : okC n (byteAt s i) = false) : ∀ {k : Nat}, i < k → okT n s k = false
  | 0, h => by omega
  | k + 1, h => by
    rw [okT]
    by_cases hk : i = k
    · subst hk; rw [hb, Bool.and_false]
    · rw [okT_bad hb (show i < k by omega), Bool.false_and]
theorem u8_sub {c : Nat} (h1 : 97 ≤ c) (h2 : c < 256) : IntKind.u8.wrap ((c : Int) - 97) = (c : Int) - 97 := by
  simp [IntKind.wrap, IntKind.bits, IntKind.signed]
  omega

set_option maxRecDepth 100000 in
set_option maxHeartbeats 400000 in
theorem shoots_any (ao : Option Addr) (n cap : Nat) (s : ByteArray) (w : World) (hn : n ≤ 1000) (hs : s.size ≤ 200000) :
    Calls Tryd.prog 82 #[.slice ao n cap, .string s] w fun e w' => e = .returned (.bool (okS n s)) ∧ w' = w := by
  go_enter Tryd.func82, Tryd.ntmps82
  go_wp2_with fail
  go_loopg [8] s.size (fun gm iv wr => ∃ i : Nat, i ≤ s.size ∧ gm = s.size - i ∧ iv = .int .i64 i ∧ okT n s i = true ∧ wr = w)
  case atStart => exact ⟨0, by omega, by omega, rfl, rfl, rfl⟩
  case round =>
    obtain ⟨i, hi, rfl, rfl, hok, rfl⟩ := hrel
    have HOK := Lib.hid hok
    clear hok
    by_cases hlt : i < s.size
    · have hidx := index_byte s hlt
      have hc256 := byteAt_lt s i
      have HB := Lib.hid (fun (h : okC n (byteAt s i) = false) => okT_bad h hlt)
      have HT := Lib.hid (show okT n s (i + 1) = (okT n s i && okC n (byteAt s i)) from rfl)
      obtain ⟨c, hc⟩ : ∃ c, byteAt s i = c := ⟨_, rfl⟩
      rw [hc] at hc256 HB HT
      simp only [hc] at hidx
      clear hc
      have di : decide (i < s.size) = true := by simpa using hlt
      by_cases h1 : c < 97
      · have d1 : decide ((c : Int) < 97) = true := by simp; omega
        have HF := Lib.hid (HB.out (by unfold okC; rw [decide_eq_false (by omega)]; rfl))
        clear h1
        go_wp2_with fail
        go_ret
        exact ⟨by unfold okS; rw [HF.out]; rfl, rfl⟩
      · have d1 : decide ((c : Int) < 97) = false := by simp; omega
        have hsub := u8_sub (by omega) hc256
        by_cases h2 : n ≤ c - 97
        · have d2 : decide ((n : Int) ≤ (c : Int) - 97) = true := by simp; omega
          have HF := Lib.hid (HB.out (by unfold okC; rw [decide_eq_false (show ¬ c < 97 + n by omega), Bool.and_false]))
          clear h1 h2
          go_wp2_with fail
          go_ret
          exact ⟨by unfold okS; rw [HF.out]; rfl, rfl⟩
        · have d2 : decide ((n : Int) ≤ (c : Int) - 97) = false := by simp; omega
          have HF := Lib.hid (HT.out.trans (show (okT n s i && okC n c) = true by rw [HOK.out]; unfold okC; rw [decide_eq_true (show 97 ≤ c by omega), decide_eq_true (show c < 97 + n by omega)]; rfl))
          clear h1 h2
          go_wp2_with fail
          go_roundg (s.size - (i + 1))
          case measure => omega
          case rel => exact ⟨i + 1, by omega, rfl, by go_num, HF.out, rfl⟩
    · obtain rfl : i = s.size := by omega
      go_wp2_with fail
      go_ret
      exact ⟨by unfold okS; rw [HOK.out]; rfl, rfl⟩
end Go.Proofs.YtilacamhjibneaaDoor

/- A vine and a shoot are looked at: Letters; of, shot; Vine, Shoot. Their conditions are their premises. -/
namespace Go.Proofs.YtilacamhjibneaaDoor
open Go.RowKit

set_option maxRecDepth 100000 in
set_option maxHeartbeats 400000 in
theorem rletters_any (ao : Option Addr) (n cap : Nat) (s : ByteArray) (w : World) (hn : n ≤ 1000) (hs : s.size ≤ 200000) :
    Calls Tryd.prog 78 #[.slice ao n cap, .string s] w fun e w' => e = .returned (.bool (okS n s)) ∧ w' = w := by
  go_enter Tryd.func78, Tryd.ntmps78
  go_wp2_with fail
  go_loopg [5] s.size (fun gm iv wr => ∃ i : Nat, i ≤ s.size ∧ gm = s.size - i ∧ iv = .int .i64 i ∧ okT n s i = true ∧ wr = w)
  case atStart => exact ⟨0, by omega, by omega, rfl, rfl, rfl⟩
  case round =>
    obtain ⟨i, hi, rfl, rfl, hok, rfl⟩ := hrel
    have HOK := Lib.hid hok
    clear hok
    by_cases hlt : i < s.size
    · have hidx := index_byte s hlt
      have hc256 := byteAt_lt s i
      have HB := Lib.hid (fun (h : okC n (byteAt s i) = false) => okT_bad h hlt)
      have HT := Lib.hid (show okT n s (i + 1) = (okT n s i && okC n (byteAt s i)) from rfl)
      obtain ⟨c, hc⟩ : ∃ c, byteAt s i = c := ⟨_, rfl⟩
      rw [hc] at hc256 HB HT
      simp only [hc] at hidx
      clear hc
      have di : decide ((i : Int) < (s.size : Int)) = true := by simpa using hlt
      by_cases h1 : c < 97
      · have d1 : decide ((c : Int) < 97) = true := by simp; omega
        have HF := Lib.hid (HB.out (by unfold okC; rw [decide_eq_false (by omega)]; rfl))
        clear h1
        go_wp2_with fail
        go_ret
        exact ⟨by unfold okS; rw [HF.out]; rfl, rfl⟩
      · have d1 : decide ((c : Int) < 97) = false := by simp; omega
        have hsub := u8_sub (by omega) hc256
        by_cases h2 : n ≤ c - 97
        · have d2 : decide ((n : Int) ≤ (c : Int) - 97) = true := by simp; omega
          have HF := Lib.hid (HB.out (by unfold okC; rw [decide_eq_false (show ¬ c < 97 + n by omega), Bool.and_false]))
          clear h1 h2
          go_wp2_with fail
          go_ret
          exact ⟨by unfold okS; rw [HF.out]; rfl, rfl⟩
        · have d2 : decide ((n : Int) ≤ (c : Int) - 97) = false := by simp; omega
          have HF := Lib.hid (HT.out.trans (show (okT n s i && okC n c) = true by rw [HOK.out]; unfold okC; rw [decide_eq_true (show 97 ≤ c by omega), decide_eq_true (show c < 97 + n by omega)]; rfl))
          clear h1 h2
          go_wp2_with fail
          go_roundg (s.size - (i + 1))
          case measure => omega
          case rel => exact ⟨i + 1, by omega, rfl, by go_num, HF.out, rfl⟩
    · obtain rfl : i = s.size := by omega
      go_wp2_with fail
      go_ret
      exact ⟨by unfold okS; rw [HOK.out]; rfl, rfl⟩

/-- The cells of a list of strings. -/
def StrsAt (w : World) (b off : Nat) (P : List ByteArray) : Prop := ∀ k (h : k < P.length), w.cell? ⟨b, off + k, none⟩ = some (.string P[k])
theorem StrsAt.chg {S : Nat → Prop} {w w' : World} {b off : Nat} {P : List ByteArray} (h : StrsAt w b off P) (hc : Chg S w w') (hn : ¬ S b) : StrsAt w' b off P := fun k hk => hc.cell_some (h k hk) hn

def okPart (n : Nat) (p : ByteArray) : Bool := decide (p.size ≤ 8) && okS n p
def prT (P : List ByteArray) : Nat → Bool
  | 0 => true
  | k + 1 => prT P k && okPart P.length (P[k]?.getD ⟨#[]⟩)
theorem prT_bad {P : List ByteArray} {i : Nat} (hb : okPart P.length (P[i]?.getD ⟨#[]⟩) = false) : ∀ {k : Nat}, i < k → prT P k = false
  | 0, h => by omega
  | k + 1, h => by
    rw [prT]
    by_cases hk : i = k
    · subst hk; rw [hb, Bool.and_false]
    · rw [prT_bad hb (show i < k by omega), Bool.false_and]
theorem prT_at {P : List ByteArray} : ∀ {k : Nat}, prT P k = true → ∀ i, i < k → okPart P.length (P[i]?.getD ⟨#[]⟩) = true
  | 0, _, i, hi => by omega
  | k + 1, h, i, hi => by
    rw [prT, Bool.and_eq_true] at h
    by_cases hk : i = k
    · subst hk; exact h.2
    · exact prT_at h.1 i (by omega)
/-- The error of a vine, and of a vine and a shoot. -/
def errV (P : List ByteArray) : Nat := if P.length < 1 ∨ 6 < P.length then 2 else if prT P P.length = true then 0 else 5
def okShoot (n : Nat) (s : ByteArray) : Bool := decide (s.size ≤ 30) && okS n s
def errS (P : List ByteArray) (s : ByteArray) : Nat := if errV P ≠ 0 then errV P else if okShoot P.length s = true then 0 else 5
def ofV (ao : Option Addr) (cap : Nat) (P : List ByteArray) : Value := if errV P = 0 then .tuple #[.slice ao P.length cap, .int .i64 0] else .tuple #[.slice none 0 0, .int .i64 (errV P : Nat)]
def shotV (ao : Option Addr) (cap : Nat) (P : List ByteArray) (s : ByteArray) : Value := if errS P s = 0 then .tuple #[.slice ao P.length cap, .int .i64 0] else .tuple #[.slice none 0 0, .int .i64 (errS P s : Nat)]

set_option maxRecDepth 100000 in
set_option maxHeartbeats 1000000 in
theorem of_any (P : List ByteArray) (ao : Option Addr) (cap b off : Nat) (w : World) (hs : StrsAt w b off P) (ha : P = [] ∨ ao = some ⟨b, off, none⟩) (hn : P.length ≤ 1000) (hz : ∀ p ∈ P, p.size ≤ 1000) :
    Calls Tryd.prog 65 #[.slice ao P.length cap] w fun e w' => e = .returned (ofV ao cap P) ∧ w' = w := by
  have HS := Lib.hid hs; have HA := Lib.hid ha; have HZ := Lib.hid hz
  clear hs ha hz
  by_cases h1 : P.length < 1
  · have d1 : decide ((P.length : Int) < 1) = true := by simp; omega
    have HV : Hid (ofV ao cap P = .tuple #[.slice none 0 0, .int .i64 2]) := Lib.hid (by
      have he : errV P = 2 := by unfold errV; rw [if_pos (by omega)]
      unfold ofV
      rw [he]
      rfl)
    clear h1
    go_enter Tryd.func65, Tryd.ntmps65
    go_wp2_with fail
    go_ret2
    exact ⟨by rw [HV.out]; rfl, rfl⟩
  · have d1 : decide ((P.length : Int) < 1) = false := by simp; omega
    by_cases h2 : 6 < P.length
    · have d2 : decide ((6 : Int) < (P.length : Int)) = true := by simp; omega
      have HV : Hid (ofV ao cap P = .tuple #[.slice none 0 0, .int .i64 2]) := Lib.hid (by
        have he : errV P = 2 := by unfold errV; rw [if_pos (by omega)]
        unfold ofV
        rw [he]
        rfl)
      clear h1 h2
      go_enter Tryd.func65, Tryd.ntmps65
      go_wp2_with fail
      go_ret2
      exact ⟨by rw [HV.out]; rfl, rfl⟩
    · have d2 : decide ((6 : Int) < (P.length : Int)) = false := by simp; omega
      have HE : Hid (errV P = if prT P P.length = true then 0 else 5) := Lib.hid (by unfold errV; rw [if_neg (by omega)])
      have hpos : 0 < P.length := by omega
      clear h1 h2
      have hne : P ≠ [] := by intro h; subst h; simp at hpos
      obtain rfl := HA.out.resolve_left hne
      clear HA hne
      go_enter Tryd.func65, Tryd.ntmps65
      go_wp2_with fail
      go_loopg [18] P.length (fun gm iv wr => ∃ i : Nat, i ≤ P.length ∧ gm = P.length - i ∧ iv = .int .i64 i ∧ prT P i = true ∧ wr = w)
      case atStart => exact ⟨0, by omega, by omega, rfl, rfl, rfl⟩
      case round =>
        obtain ⟨i, hi, rfl, rfl, hok, rfl⟩ := hrel
        have HOK := Lib.hid hok
        clear hok
        by_cases hlt : i < P.length
        · have di : decide (i < P.length) = true := by simpa using hlt
          have c0 := HS.out i hlt
          have hz := HZ.out _ (List.getElem_mem hlt)
          have hg : P[i]?.getD ⟨#[]⟩ = P[i] := by rw [List.getElem?_eq_getElem hlt]; rfl
          have HB := Lib.hid (fun (h : okPart P.length (P[i]?.getD ⟨#[]⟩) = false) => prT_bad h hlt)
          have HT := Lib.hid (show prT P (i + 1) = (prT P i && okPart P.length (P[i]?.getD ⟨#[]⟩)) from rfl)
          rw [hg] at HB HT
          obtain ⟨p, hp⟩ : ∃ p, P[i] = p := ⟨_, rfl⟩
          rw [hp] at c0 hz HB HT
          clear hp hg
          by_cases h3 : 8 < p.size
          · have d3 : decide ((8 : Int) < (p.size : Int)) = true := by simp; omega
            have HF := Lib.hid (HB.out (by unfold okPart; rw [decide_eq_false (by omega)]; rfl))
            have HV : Hid (ofV (some ⟨b, off, none⟩) cap P = .tuple #[.slice none 0 0, .int .i64 5]) := Lib.hid (by
              have he : errV P = 5 := by rw [HE.out, HF.out]; rfl
              unfold ofV
              rw [he]
              rfl)
            clear h3
            go_wp2_with fail
            go_ret2
            exact ⟨by rw [HV.out]; rfl, rfl⟩
          · have d3 : decide ((8 : Int) < (p.size : Int)) = false := by simp; omega
            have HD := Lib.hid (show decide (p.size ≤ 8) = true by simp; omega)
            have HSH := Lib.hid (shoots_any (some ⟨b, off, none⟩) P.length cap p wr hn (by omega))
            obtain ⟨ok, hk⟩ : ∃ ok, okS P.length p = ok := ⟨_, rfl⟩
            have HK := Lib.hid hk
            rw [hk] at HSH
            clear hk h3
            go_wp2_with fail
            refine HSH.out.mono ?_
            rintro e w1 ⟨rfl, rfl⟩
            cases ok with
            | false =>
              have HF := Lib.hid (HB.out (by unfold okPart; rw [HK.out, Bool.and_false]))
              have HV : Hid (ofV (some ⟨b, off, none⟩) cap P = .tuple #[.slice none 0 0, .int .i64 5]) := Lib.hid (by
                have he : errV P = 5 := by rw [HE.out, HF.out]; rfl
                unfold ofV
                rw [he]
                rfl)
              go_wp2_with fail
              go_ret2
              exact ⟨by rw [HV.out]; rfl, rfl⟩
            | true =>
              have HF := Lib.hid (HT.out.trans (by unfold okPart; rw [HOK.out, HK.out, HD.out]; rfl : _ = true))
              go_wp2_with fail
              go_roundg (P.length - (i + 1))
              case measure => omega
              case rel => exact ⟨i + 1, by omega, rfl, by go_num, HF.out, rfl⟩
        · obtain rfl : i = P.length := by omega
          have HV : Hid (ofV (some ⟨b, off, none⟩) cap P = .tuple #[.slice (some ⟨b, off, none⟩) P.length cap, .int .i64 0]) := Lib.hid (by
            have he : errV P = 0 := by rw [HE.out, HOK.out]; rfl
            unfold ofV
            rw [he]
            rfl)
          go_wp2_with fail
          go_ret2
          exact ⟨by rw [HV.out]; rfl, rfl⟩

set_option maxRecDepth 100000 in
set_option maxHeartbeats 1000000 in
theorem rvine_any (P : List ByteArray) (ao : Option Addr) (cap b off : Nat) (w : World) (hs : StrsAt w b off P) (ha : P = [] ∨ ao = some ⟨b, off, none⟩) (hn : P.length ≤ 1000) (hz : ∀ p ∈ P, p.size ≤ 1000) :
    Calls Tryd.prog 46 #[.slice ao P.length cap] w fun e w' => e = .returned (.int .i64 (errV P : Nat)) ∧ w' = w := by
  have HS := Lib.hid hs; have HA := Lib.hid ha; have HZ := Lib.hid hz
  clear hs ha hz
  by_cases h1 : P.length < 1
  · have d1 : decide ((P.length : Int) < 1) = true := by simp; omega
    have HV : Hid (errV P = 2) := Lib.hid (by unfold errV; rw [if_pos (by omega)])
    clear h1
    go_enter Tryd.func46, Tryd.ntmps46
    go_wp2_with fail
    go_ret
    exact ⟨by rw [HV.out]; rfl, rfl⟩
  · have d1 : decide ((P.length : Int) < 1) = false := by simp; omega
    by_cases h2 : 6 < P.length
    · have d2 : decide ((6 : Int) < (P.length : Int)) = true := by simp; omega
      have HV : Hid (errV P = 2) := Lib.hid (by unfold errV; rw [if_pos (by omega)])
      clear h1 h2
      go_enter Tryd.func46, Tryd.ntmps46
      go_wp2_with fail
      go_ret
      exact ⟨by rw [HV.out]; rfl, rfl⟩
    · have d2 : decide ((6 : Int) < (P.length : Int)) = false := by simp; omega
      have HE : Hid (errV P = if prT P P.length = true then 0 else 5) := Lib.hid (by unfold errV; rw [if_neg (by omega)])
      have hpos : 0 < P.length := by omega
      clear h1 h2
      have hne : P ≠ [] := by intro h; subst h; simp at hpos
      obtain rfl := HA.out.resolve_left hne
      clear HA hne
      go_enter Tryd.func46, Tryd.ntmps46
      go_wp2_with fail
      go_loopg [3] P.length (fun gm iv wr => ∃ i : Nat, i ≤ P.length ∧ gm = P.length - i ∧ iv = .int .i64 i ∧ prT P i = true ∧ wr = w)
      case atStart => exact ⟨0, by omega, by omega, rfl, rfl, rfl⟩
      case round =>
        obtain ⟨i, hi, rfl, rfl, hok, rfl⟩ := hrel
        have HOK := Lib.hid hok
        clear hok
        by_cases hlt : i < P.length
        · have di : decide ((i : Int) < (P.length : Int)) = true := by simpa using hlt
          have c0 := HS.out i hlt
          have hz := HZ.out _ (List.getElem_mem hlt)
          have hg : P[i]?.getD ⟨#[]⟩ = P[i] := by rw [List.getElem?_eq_getElem hlt]; rfl
          have HB := Lib.hid (fun (h : okPart P.length (P[i]?.getD ⟨#[]⟩) = false) => prT_bad h hlt)
          have HT := Lib.hid (show prT P (i + 1) = (prT P i && okPart P.length (P[i]?.getD ⟨#[]⟩)) from rfl)
          rw [hg] at HB HT
          obtain ⟨p, hp⟩ : ∃ p, P[i] = p := ⟨_, rfl⟩
          rw [hp] at c0 hz HB HT
          clear hp hg
          by_cases h3 : 8 < p.size
          · have d3 : decide ((8 : Int) < (p.size : Int)) = true := by simp; omega
            have HF := Lib.hid (HB.out (by unfold okPart; rw [decide_eq_false (by omega)]; rfl))
            have HV : Hid (errV P = 5) := Lib.hid (by rw [HE.out, HF.out]; rfl)
            clear h3
            go_wp2_with fail
            go_ret
            exact ⟨by rw [HV.out]; rfl, rfl⟩
          · have d3 : decide ((8 : Int) < (p.size : Int)) = false := by simp; omega
            have HD := Lib.hid (show decide (p.size ≤ 8) = true by simp; omega)
            have HSH := Lib.hid (rletters_any (some ⟨b, off, none⟩) P.length cap p wr hn (by omega))
            obtain ⟨ok, hk⟩ : ∃ ok, okS P.length p = ok := ⟨_, rfl⟩
            have HK := Lib.hid hk
            rw [hk] at HSH
            clear hk h3
            go_wp2_with fail
            refine HSH.out.mono ?_
            rintro e w1 ⟨rfl, rfl⟩
            cases ok with
            | false =>
              have HF := Lib.hid (HB.out (by unfold okPart; rw [HK.out, Bool.and_false]))
              have HV : Hid (errV P = 5) := Lib.hid (by rw [HE.out, HF.out]; rfl)
              go_wp2_with fail
              go_ret
              exact ⟨by rw [HV.out]; rfl, rfl⟩
            | true =>
              have HF := Lib.hid (HT.out.trans (by unfold okPart; rw [HOK.out, HK.out, HD.out]; rfl : _ = true))
              go_wp2_with fail
              go_roundg (P.length - (i + 1))
              case measure => omega
              case rel => exact ⟨i + 1, by omega, rfl, by go_num, HF.out, rfl⟩
        · obtain rfl : i = P.length := by omega
          have HV : Hid (errV P = 0) := Lib.hid (by rw [HE.out, HOK.out]; rfl)
          go_wp2_with fail
          go_ret
          exact ⟨by rw [HV.out]; rfl, rfl⟩

set_option maxRecDepth 100000 in
set_option maxHeartbeats 400000 in
theorem shot_any (P : List ByteArray) (s : ByteArray) (ao : Option Addr) (cap b off : Nat) (w : World) (hs : StrsAt w b off P) (ha : P = [] ∨ ao = some ⟨b, off, none⟩) (hn : P.length ≤ 1000) (hz : ∀ p ∈ P, p.size ≤ 1000) (hzs : s.size ≤ 1000) :
    Calls Tryd.prog 51 #[.slice ao P.length cap, .string s] w fun e w' => e = .returned (shotV ao cap P s) ∧ w' = w := by
  have HO := Lib.hid (of_any P ao cap b off w hs ha hn hz)
  have HSH := Lib.hid (shoots_any ao P.length cap s w hn (by omega))
  clear hs ha hz
  by_cases he : errV P = 0
  · have HOV := Lib.hid (show ofV ao cap P = .tuple #[.slice ao P.length cap, .int .i64 0] by unfold ofV; rw [if_pos he])
    rw [HOV.out] at HO
    have HE : Hid (errS P s = if okShoot P.length s = true then 0 else 5) := Lib.hid (by unfold errS; rw [if_neg (by simpa using he)])
    clear he
    go_enter Tryd.func51, Tryd.ntmps51
    go_wp2_with fail
    refine HO.out.mono ?_
    rintro e w1 ⟨rfl, rfl⟩
    by_cases h3 : 30 < s.size
    · have d3 : decide ((30 : Int) < (s.size : Int)) = true := by simp; omega
      have HV : Hid (shotV ao cap P s = .tuple #[.slice none 0 0, .int .i64 5]) := Lib.hid (by
        have h : errS P s = 5 := by rw [HE.out]; unfold okShoot; rw [decide_eq_false (by omega)]; rfl
        unfold shotV; rw [h]; rfl)
      clear h3
      go_wp2_with fail
      go_ret2
      exact ⟨by rw [HV.out]; rfl, rfl⟩
    · have d3 : decide ((30 : Int) < (s.size : Int)) = false := by simp; omega
      have HD := Lib.hid (show decide (s.size ≤ 30) = true by simp; omega)
      obtain ⟨ok, hk⟩ : ∃ ok, okS P.length s = ok := ⟨_, rfl⟩
      have HK := Lib.hid hk
      rw [hk] at HSH
      clear hk h3
      go_wp2_with fail
      refine HSH.out.mono ?_
      rintro e w1 ⟨rfl, rfl⟩
      cases ok with
      | false =>
        have HV : Hid (shotV ao cap P s = .tuple #[.slice none 0 0, .int .i64 5]) := Lib.hid (by
          have h : errS P s = 5 := by rw [HE.out]; unfold okShoot; rw [HK.out, Bool.and_false]; rfl
          unfold shotV; rw [h]; rfl)
        go_wp2_with fail
        go_ret2
        exact ⟨by rw [HV.out]; rfl, rfl⟩
      | true =>
        have HV : Hid (shotV ao cap P s = .tuple #[.slice ao P.length cap, .int .i64 0]) := Lib.hid (by
          have h : errS P s = 0 := by rw [HE.out]; unfold okShoot; rw [HK.out, HD.out]; rfl
          unfold shotV; rw [h]; rfl)
        go_wp2_with fail
        go_ret2
        exact ⟨by rw [HV.out]; rfl, rfl⟩
  · have HOV := Lib.hid (show ofV ao cap P = .tuple #[.slice none 0 0, .int .i64 (errV P : Nat)] by unfold ofV; rw [if_neg he])
    rw [HOV.out] at HO
    have HV : Hid (shotV ao cap P s = .tuple #[.slice none 0 0, .int .i64 (errV P : Nat)]) := Lib.hid (by
      have h : errS P s = errV P := by unfold errS; rw [if_pos he]
      unfold shotV; rw [h, if_neg he])
    have dn : (((errV P : Nat) : Int) != 0) = true := by simpa using he
    obtain ⟨E, hE⟩ : ∃ E, errV P = E := ⟨_, rfl⟩
    rw [hE] at HO HV dn
    clear he hE HOV
    go_enter Tryd.func51, Tryd.ntmps51
    go_wp2_with fail
    refine HO.out.mono ?_
    rintro e w1 ⟨rfl, rfl⟩
    go_wp2_with fail
    go_ret2
    exact ⟨by rw [HV.out]; rfl, rfl⟩

set_option maxRecDepth 100000 in
set_option maxHeartbeats 400000 in
theorem rshoot_any (P : List ByteArray) (s : ByteArray) (ao : Option Addr) (cap b off : Nat) (w : World) (hs : StrsAt w b off P) (ha : P = [] ∨ ao = some ⟨b, off, none⟩) (hn : P.length ≤ 1000) (hz : ∀ p ∈ P, p.size ≤ 1000) (hzs : s.size ≤ 1000) :
    Calls Tryd.prog 36 #[.slice ao P.length cap, .string s] w fun e w' => e = .returned (.int .i64 (errS P s : Nat)) ∧ w' = w := by
  have HO := Lib.hid (rvine_any P ao cap b off w hs ha hn hz)
  have HSH := Lib.hid (rletters_any ao P.length cap s w hn (by omega))
  clear hs ha hz
  by_cases he : errV P = 0
  · rw [he] at HO
    have HE : Hid (errS P s = if okShoot P.length s = true then 0 else 5) := Lib.hid (by unfold errS; rw [if_neg (by simpa using he)])
    clear he
    go_enter Tryd.func36, Tryd.ntmps36
    go_wp2_with fail
    refine HO.out.mono ?_
    rintro e w1 ⟨rfl, rfl⟩
    by_cases h3 : 30 < s.size
    · have d3 : decide ((30 : Int) < (s.size : Int)) = true := by simp; omega
      have HV : Hid (errS P s = 5) := Lib.hid (by rw [HE.out]; unfold okShoot; rw [decide_eq_false (by omega)]; rfl)
      clear h3
      go_wp2_with fail
      go_ret
      exact ⟨by rw [HV.out]; rfl, rfl⟩
    · have d3 : decide ((30 : Int) < (s.size : Int)) = false := by simp; omega
      have HD := Lib.hid (show decide (s.size ≤ 30) = true by simp; omega)
      obtain ⟨ok, hk⟩ : ∃ ok, okS P.length s = ok := ⟨_, rfl⟩
      have HK := Lib.hid hk
      rw [hk] at HSH
      clear hk h3
      go_wp2_with fail
      refine HSH.out.mono ?_
      rintro e w1 ⟨rfl, rfl⟩
      cases ok with
      | false =>
        have HV : Hid (errS P s = 5) := Lib.hid (by rw [HE.out]; unfold okShoot; rw [HK.out, Bool.and_false]; rfl)
        go_wp2_with fail
        go_ret
        exact ⟨by rw [HV.out]; rfl, rfl⟩
      | true =>
        have HV : Hid (errS P s = 0) := Lib.hid (by rw [HE.out]; unfold okShoot; rw [HK.out, HD.out]; rfl)
        go_wp2_with fail
        go_ret
        exact ⟨by rw [HV.out]; rfl, rfl⟩
  · have HV : Hid (errS P s = errV P) := Lib.hid (by unfold errS; rw [if_pos he])
    have dn : (((errV P : Nat) : Int) == 0) = false := by simpa using he
    obtain ⟨E, hE⟩ : ∃ E, errV P = E := ⟨_, rfl⟩
    rw [hE] at HO HV dn
    clear he hE
    go_enter Tryd.func36, Tryd.ntmps36
    go_wp2_with fail
    refine HO.out.mono ?_
    rintro e w1 ⟨rfl, rfl⟩
    go_wp2_with fail
    go_ret
    exact ⟨by rw [HV.out]; rfl, rfl⟩
end Go.Proofs.YtilacamhjibneaaDoor

/- Letters as numbers; the tallies: plus, counts, sum. Their conditions are their premises. -/
namespace Go.Proofs.YtilacamhjibneaaDoor
open Go.RowKit

def chr (c : Nat) : UInt8 := UInt8.ofNat (97 + c)
def str (l : List Nat) : ByteArray := ⟨(l.map chr).toArray⟩
theorem str_size (l : List Nat) : (str l).size = l.length := by
  show (l.map chr).toArray.size = _
  simp
theorem str_byte {l : List Nat} {i : Nat} (h : i < l.length) (hc : l[i] < 100) : byteAt (str l) i = 97 + l[i] := by
  unfold byteAt str
  rw [List.getElem?_eq_getElem (by simpa using h)]
  simp [chr]
  omega
theorem index_chr {l : List Nat} {i : Nat} (h : i < l.length) (hc : l[i] < 100) (w : World) : (Instr.index 9 (.string (str l)) (.int .i64 (i : Int))).run Tryd.prog w = .ok (.int .u8 ((97 + l[i] : Nat) : Int)) w := by
  rw [index_byte (str l) (by rw [str_size]; exact h) w, str_byte h hc]
theorem u8_chr (c : Nat) (hc : c < 100) : IntKind.u8.wrap (((97 + c : Nat) : Int) - 97) = (c : Int) := by
  rw [u8_sub (by omega) (by omega)]
  omega

/-- What a vine is: 1 to 6 parts of at most 8 letters. -/
structure WF (V : List (List Nat)) : Prop where
  pos : 1 ≤ V.length
  le : V.length ≤ 6
  small : ∀ p ∈ V, p.length ≤ 8 ∧ ∀ c ∈ p, c < V.length
def lets (s : ByteArray) : List Nat := s.data.toList.map fun c => c.toNat - 97
theorem lets_len (s : ByteArray) : (lets s).length = s.size := by simp [lets]
theorem lets_at {s : ByteArray} {i : Nat} (h : i < (lets s).length) : (lets s)[i] = byteAt s i - 97 := by
  have h' : i < s.data.toList.length := by simpa [lets] using h
  unfold byteAt
  rw [List.getElem?_eq_getElem h']
  simp [lets]
theorem okS_at {n : Nat} {s : ByteArray} (h : okS n s = true) {i : Nat} (hi : i < s.size) : 97 ≤ byteAt s i ∧ byteAt s i < 97 + n := by
  have := okT_at h i hi
  unfold okC at this
  simpa using this
theorem lets_lt {n : Nat} {s : ByteArray} (h : okS n s = true) : ∀ c ∈ lets s, c < n := by
  intro c hc
  obtain ⟨i, hi, rfl⟩ := List.getElem_of_mem hc
  have := okS_at h (i := i) (by rw [← lets_len]; exact hi)
  rw [lets_at hi]
  omega
theorem str_lets {n : Nat} {s : ByteArray} (hn : n ≤ 100) (h : okS n s = true) : str (lets s) = s := by
  apply ByteArray.ext
  apply Array.ext'
  show (List.map chr (lets s)) = s.data.toList
  apply List.ext_getElem?
  intro i
  by_cases hi : i < s.size
  · have h' : i < s.data.toList.length := by simpa using hi
    have hb := okS_at h hi
    have hbb : byteAt s i = (s.data.toList[i]).toNat := by unfold byteAt; rw [List.getElem?_eq_getElem h']; rfl
    rw [List.getElem?_map, List.getElem?_eq_getElem (by rw [lets_len]; exact hi), List.getElem?_eq_getElem h', Option.map_some, lets_at (by rw [lets_len]; exact hi)]
    congr 1
    unfold chr
    rw [show 97 + (byteAt s i - 97) = (s.data.toList[i]).toNat by omega]
    simp
  · rw [List.getElem?_eq_none (by simp [lets_len]; omega), List.getElem?_eq_none (by simp; omega)]

theorem parts_of {P : List ByteArray} (h : errV P = 0) : ∃ V, P = V.map str ∧ WF V := by
  unfold errV at h
  have h1 : ¬ (P.length < 1 ∨ 6 < P.length) := by
    intro hc; rw [if_pos hc] at h; omega
  rw [if_neg h1] at h
  have h2 : prT P P.length = true := by
    cases hp : prT P P.length with
    | true => rfl
    | false => rw [hp] at h; simp at h
  have hall : ∀ p ∈ P, p.size ≤ 8 ∧ okS P.length p = true := by
    intro p hp
    obtain ⟨i, hi, rfl⟩ := List.getElem_of_mem hp
    have := prT_at h2 i hi
    rw [List.getElem?_eq_getElem hi] at this
    unfold okPart at this
    simpa using this
  refine ⟨P.map lets, ?_, ?_, ?_, ?_⟩
  · rw [List.map_map]
    conv => lhs; rw [← List.map_id P]
    refine List.map_congr_left (fun p hp => ?_)
    exact (str_lets (by omega) (hall p hp).2).symm
  · rw [List.length_map]; omega
  · rw [List.length_map]; omega
  · intro p hp
    obtain ⟨q, hq, rfl⟩ := List.mem_map.1 hp
    rw [lets_len, List.length_map]
    exact ⟨(hall q hq).1, lets_lt (hall q hq).2⟩
theorem shot_of {P : List ByteArray} {s : ByteArray} (h : errS P s = 0) : ∃ V t, P = V.map str ∧ s = str t ∧ WF V ∧ t.length ≤ 30 ∧ ∀ c ∈ t, c < V.length := by
  unfold errS at h
  have he : errV P = 0 := by
    by_cases hc : errV P ≠ 0
    · rw [if_pos hc] at h; exact h
    · simpa using hc
  rw [if_neg (by simpa using he)] at h
  have h2 : okShoot P.length s = true := by
    cases hp : okShoot P.length s with
    | true => rfl
    | false => rw [hp] at h; simp at h
  obtain ⟨V, rfl, hV⟩ := parts_of he
  unfold okShoot at h2
  rw [List.length_map, Bool.and_eq_true, decide_eq_true_eq] at h2
  have := hV.le
  exact ⟨V, lets s, rfl, (str_lets (by omega) h2.2).symm, hV, by rw [lets_len]; exact h2.1, lets_lt h2.2⟩

def at0 (l : List Nat) (i : Nat) : Nat := l[i]?.getD 0
def nv (l : List Nat) : List Value := l.map fun (x : Nat) => .int .i64 (x : Int)
theorem at0_lt_of {l : List Nat} {i : Nat} (h : i < l.length) : at0 l i = l[i] := by
  unfold at0
  rw [List.getElem?_eq_getElem h]
  rfl
theorem at0_le {N : List Nat} {m : Nat} (h : ∀ y ∈ N, y ≤ m) (i : Nat) : at0 N i ≤ m := by
  unfold at0
  cases hh : N[i]? with
  | none => simp
  | some x => exact h x (List.mem_of_getElem? hh)
theorem nv_at {N : List Nat} {i : Nat} (h : i < N.length) : (nv N)[i]? = some (.int .i64 (at0 N i : Nat)) := by
  unfold nv at0
  rw [List.getElem?_map, List.getElem?_eq_getElem h]
  rfl
theorem nv_set (N : List Nat) (i v : Nat) : nv (N.set i v) = (nv N).set i (.int .i64 (v : Int)) := by
  unfold nv
  rw [List.map_set]
theorem at0_set (N : List Nat) (i v : Nat) (j : Nat) (h : i < N.length) : at0 (N.set i v) j = if i = j then v else at0 N j := by
  unfold at0
  by_cases hij : i = j
  · subst hij
    rw [if_pos rfl, List.getElem?_set_self h]
    rfl
  · rw [if_neg hij, List.getElem?_set_ne hij]
theorem set_le {N : List Nat} {i v m : Nat} (h : ∀ y ∈ N, y ≤ m) (hv : v ≤ m) : ∀ y ∈ N.set i v, y ≤ m := by
  intro y hy
  rcases List.mem_or_eq_of_mem_set hy with h1 | h1
  · exact h y h1
  · omega
def NatsAt (w : World) (b off : Nat) (l : List Nat) : Prop := ∀ k (h : k < l.length), w.cell? ⟨b, off + k, none⟩ = some (.int .i64 (l[k] : Nat))
theorem NatsAt.chg {S : Nat → Prop} {w w' : World} {b off : Nat} {l : List Nat} (h : NatsAt w b off l) (hc : Chg S w w') (hn : ¬ S b) : NatsAt w' b off l := fun k hk => hc.cell_some (h k hk) hn
theorem nats_at {w : World} {b off : Nat} {l : List Nat} (h : NatsAt w b off l) {i : Nat} (hi : i < l.length) : w.cell? ⟨b, off + i, none⟩ = some (.int .i64 (at0 l i : Nat)) := by
  have := h i hi
  rw [at0_lt_of hi]
  exact this
theorem nats_of_blk {w : World} {B e : Nat} {N : List Nat} (h : Blk w B e (nv N)) : NatsAt w B 0 N := fun k hk => by
  rw [Nat.zero_add]
  refine h.cell_some ?_
  unfold nv
  rw [List.getElem?_map, List.getElem?_eq_getElem hk]
  rfl
theorem madeCells_one (v : Value) (n : Nat) : madeCells #[v] n = Array.replicate n v := by
  apply Array.ext
  · simp [madeCells]
  · intro i h1 h2
    simp [madeCells, Nat.mod_one]

/-- The cells of a vine. -/
def VAt (w : World) (b off : Nat) (V : List (List Nat)) : Prop := ∀ k (h : k < V.length), w.cell? ⟨b, off + k, none⟩ = some (.string (str V[k]))
theorem VAt.chg {S : Nat → Prop} {w w' : World} {b off : Nat} {V : List (List Nat)} (h : VAt w b off V) (hc : Chg S w w') (hn : ¬ S b) : VAt w' b off V := fun k hk => hc.cell_some (h k hk) hn
theorem vat_of {w : World} {b off : Nat} {V : List (List Nat)} (h : StrsAt w b off (V.map str)) : VAt w b off V := fun k hk => by
  have := h k (by simpa using hk)
  simpa using this
theorem vat_lt {w : World} {b off : Nat} {V : List (List Nat)} (h : VAt w b off V) (hV : 1 ≤ V.length) : b < w.heap.size := World.cell_lt (h 0 (by omega))

/-- The bound of a tally. -/
def lim : Nat := 1152921504606846977
theorem plus_any (a b : Nat) (ha : a ≤ lim) (hb : b ≤ lim) (w : World) : Calls Tryd.prog 83 #[.int .i64 (a : Int), .int .i64 (b : Int)] w fun e w' => e = .returned (.int .i64 ((min (a + b) lim : Nat) : Int)) ∧ w' = w := by
  have h1 : wrap64 ((a : Int) + (b : Int)) = (a : Int) + (b : Int) := by unfold lim at ha hb; unfold wrap64; omega
  go_enter Tryd.func83, Tryd.ntmps83
  go_wp2_with fail
  all_goals
    go_ret
    exact ⟨ret_int (by unfold lim; omega), rfl⟩
end Go.Proofs.YtilacamhjibneaaDoor

/- The tallies: counts, sum, after, aged. Their conditions are their premises. -/
namespace Go.Proofs.YtilacamhjibneaaDoor
open Go.RowKit

theorem make_tally (N : Nat) (hN : N ≤ 1000) (w : World) : (Instr.makeSlice 68 (.int .i64 N) (.int .i64 N)).run Tryd.prog w = .ok (.slice (some ⟨w.heap.size, 0, none⟩) N N) (w.alloc (.cells (Array.replicate N (.int .i64 0)) 3)) := by
  obtain ⟨i0, hi0, hz0, hz1, hz2⟩ := info_parts info3
  have := run_make (P := Tryd.prog) w 68 3 i0 _ Tryd.underlying68 hi0 hz0 .i64 .i64 N N (by omega) (by omega) (by rw [hz2]; omega) (by omega)
  rw [this, hz1, Nat.mul_one, show (Value.int IntKind.i64 0).cells = #[Value.int IntKind.i64 0] from rfl, madeCells_one]
  rfl
theorem made_nats (N : Nat) (w : World) : Blk (w.alloc (.cells (Array.replicate N (.int .i64 0)) 3)) w.heap.size 3 (nv (List.replicate N 0)) := by
  have := Blk.new w (Array.replicate N (.int .i64 0)) 3
  simpa [nv] using this

/-- How many of each letter, of the first k letters. -/
def cntF (n : Nat) (t : List Nat) : Nat → List Nat
  | 0 => List.replicate n 0
  | k + 1 => (cntF n t k).set (at0 t k) (at0 (cntF n t k) (at0 t k) + 1)
def cntV (n : Nat) (t : List Nat) : List Nat := cntF n t t.length
theorem cntF_len (n : Nat) (t : List Nat) : ∀ k, (cntF n t k).length = n
  | 0 => by simp [cntF]
  | k + 1 => by rw [cntF, List.length_set, cntF_len n t k]
theorem cntF_le (n : Nat) (t : List Nat) : ∀ k, ∀ y ∈ cntF n t k, y ≤ k
  | 0 => by intro y hy; simp [cntF] at hy; omega
  | k + 1 => by
    have ih := cntF_le n t k
    rw [cntF]
    refine set_le (fun y hy => Nat.le_succ_of_le (ih y hy)) ?_
    have := at0_le ih (at0 t k)
    omega

set_option maxRecDepth 100000 in
set_option maxHeartbeats 1000000 in
theorem counts_any (n : Nat) (t : List Nat) (ao : Option Addr) (cap : Nat) (w : World) (hn : n ≤ 50) (ht : ∀ c ∈ t, c < n) (hl : t.length ≤ 200000) :
    Calls Tryd.prog 57 #[.slice ao n cap, .string (str t)] w fun e w' => e = .returned (.slice (some ⟨w.heap.size, 0, none⟩) n n) ∧ Blk w' w.heap.size 3 (nv (cntV n t)) ∧ Chg (fun _ => False) w w' := by
  have hmk := make_tally n (by omega)
  have hsz := str_size t
  have HT := Lib.hid ht
  have HB0 := Lib.hid (made_nats n w); have HC0 := Lib.hid ((Chg.refl (fun _ => False) w).alloc (.cells (Array.replicate n (.int .i64 0)) 3))
  obtain ⟨B, hB⟩ : ∃ B, w.heap.size = B := ⟨_, rfl⟩
  have HB := Lib.hid hB
  rw [hB] at HB0 ⊢
  clear ht
  go_enter Tryd.func57, Tryd.ntmps57
  go_wp2_with fail
  clear hmk hB
  generalize w.alloc (.cells (Array.replicate n (.int .i64 0)) 3) = W0 at HB0 HC0 ⊢
  go_loopg [12] t.length (fun gm iv wr => ∃ k : Nat, k ≤ t.length ∧ gm = t.length - k ∧ iv = .int .i64 k ∧ Blk wr B 3 (nv (cntF n t k)) ∧ Chg (fun _ => False) w wr)
  case atStart => exact ⟨0, by omega, by omega, rfl, HB0.out, HC0.out⟩
  case round =>
    clear HB0 HC0
    obtain ⟨k, hk, rfl, rfl, hblk, hchg⟩ := hrel
    have HBK := Lib.hid hblk; have HC := Lib.hid hchg
    clear hblk hchg
    by_cases hlt : k < t.length
    · have hcn := HT.out _ (List.getElem_mem hlt)
      have hidx := index_chr hlt (by omega)
      have hu8 := u8_chr t[k] (by omega)
      have HS : Hid (cntF n t (k + 1) = (cntF n t k).set t[k] (at0 (cntF n t k) t[k] + 1)) := Lib.hid (by rw [cntF, at0_lt_of hlt])
      have hle := at0_le (cntF_le n t k) t[k]
      have k1 := HBK.out.cell_some (nv_at (i := t[k]) (by rw [cntF_len]; omega))
      have f1 := HBK.out.free t[k]
      obtain ⟨c, hc⟩ : ∃ c, t[k] = c := ⟨_, rfl⟩
      rw [hc] at hcn hu8 HS hle k1 f1
      simp only [hc] at hidx
      obtain ⟨C, hC⟩ : ∃ C, 97 + c = C := ⟨_, rfl⟩
      rw [hC] at hu8
      simp only [hC] at hidx
      obtain ⟨m, hm⟩ : ∃ m, at0 (cntF n t k) c = m := ⟨_, rfl⟩
      rw [hm] at HS hle k1
      clear hc hC hm
      have d0 : decide (k < t.length) = true := by simpa using hlt
      have hci : (c : Int) < (n : Int) := by omega
      go_wp2_with fail
      go_roundg (t.length - (k + 1))
      case measure => omega
      case rel =>
        refine ⟨k + 1, by omega, rfl, by go_num, ?_, HC.out.setCell (.inr (by rw [HB.out]; exact Nat.le_refl _)) _⟩
        rw [HS.out, nv_set]
        exact HBK.out.set c _
    · obtain rfl : k = t.length := by omega
      go_wp2_with fail
      go_ret
      exact ⟨rfl, HBK.out, HC.out⟩

/-- A sum that stays within the bound. -/
def sumF (T : List Nat) : Nat → Nat
  | 0 => 0
  | k + 1 => min (sumF T k + at0 T k) lim
def sumV (T : List Nat) : Nat := sumF T T.length
theorem sumF_le (T : List Nat) : ∀ k, sumF T k ≤ lim
  | 0 => Nat.zero_le _
  | k + 1 => Nat.min_le_right _ _

set_option maxRecDepth 100000 in
set_option maxHeartbeats 1000000 in
theorem sum_any (T : List Nat) (b off cap : Nat) (w : World) (ht : NatsAt w b off T) (hle : ∀ y ∈ T, y ≤ lim) (hl : T.length ≤ 1000) :
    Calls Tryd.prog 58 #[.slice (some ⟨b, off, none⟩) T.length cap] w fun e w' => e = .returned (.int .i64 (sumV T : Nat)) ∧ w' = w := by
  have HT := Lib.hid ht; have HL := Lib.hid hle
  clear ht hle
  go_enter Tryd.func58, Tryd.ntmps58
  go_wp2_with fail
  go_loopg [8, 3] T.length (fun gm iv sv wr => ∃ k : Nat, k ≤ T.length ∧ gm = T.length - k ∧ iv = .int .i64 k ∧ sv = .int .i64 (sumF T k : Nat) ∧ wr = w)
  case atStart => exact ⟨0, by omega, by omega, rfl, rfl, rfl⟩
  case round =>
    obtain ⟨k, hk, rfl, rfl, rfl, rfl⟩ := hrel
    by_cases hlt : k < T.length
    · have c0 := nats_at HT.out hlt
      have h1 := at0_le HL.out k
      have h2 := sumF_le T k
      have HS := Lib.hid (show sumF T (k + 1) = min (sumF T k + at0 T k) lim from rfl)
      obtain ⟨x, hx⟩ : ∃ x, at0 T k = x := ⟨_, rfl⟩
      obtain ⟨s, hs⟩ : ∃ s, sumF T k = s := ⟨_, rfl⟩
      rw [hx] at c0 h1 HS
      rw [hs] at h2 HS ⊢
      clear hx hs
      have d0 : decide (k < T.length) = true := by simpa using hlt
      go_wp2_with fail
      refine (plus_any s x h2 h1 _).mono ?_
      rintro e w1 ⟨rfl, rfl⟩
      go_wp2_with fail
      go_roundg (T.length - (k + 1))
      case measure => omega
      case rel => exact ⟨k + 1, by omega, rfl, by go_num, by rw [HS.out], rfl⟩
    · obtain rfl : k = T.length := by omega
      go_wp2_with fail
      go_ret
      exact ⟨rfl, rfl⟩
end Go.Proofs.YtilacamhjibneaaDoor

/- The tally a year later, and after some years. Their conditions are their premises. -/
namespace Go.Proofs.YtilacamhjibneaaDoor
open Go.RowKit

def part (V : List (List Nat)) (i : Nat) : List Nat := V[i]?.getD []
theorem part_lt {V : List (List Nat)} {i : Nat} (h : i < V.length) : part V i = V[i] := by
  unfold part
  rw [List.getElem?_eq_getElem h]
  rfl
theorem WF.part_le {V : List (List Nat)} (h : WF V) (i : Nat) : (part V i).length ≤ 8 ∧ ∀ c ∈ part V i, c < V.length := by
  unfold part
  cases hh : V[i]? with
  | none => simp
  | some p => exact h.small p (List.mem_of_getElem? hh)
/-- The letters of one part, each x times, on top of o. -/
def aftP (p : List Nat) (x : Nat) (o : List Nat) : Nat → List Nat
  | 0 => o
  | k + 1 => (aftP p x o k).set (at0 p k) (min (at0 (aftP p x o k) (at0 p k) + x) lim)
def aftF (V : List (List Nat)) (T : List Nat) : Nat → List Nat
  | 0 => List.replicate V.length 0
  | i + 1 => aftP (part V i) (at0 T i) (aftF V T i) (part V i).length
def aftV (V : List (List Nat)) (T : List Nat) : List Nat := aftF V T V.length
theorem aftP_len (p : List Nat) (x : Nat) (o : List Nat) : ∀ k, (aftP p x o k).length = o.length
  | 0 => rfl
  | k + 1 => by rw [aftP, List.length_set, aftP_len p x o k]
theorem aftF_len (V : List (List Nat)) (T : List Nat) : ∀ i, (aftF V T i).length = V.length
  | 0 => by simp [aftF]
  | i + 1 => by rw [aftF, aftP_len, aftF_len V T i]
theorem aftP_le (p : List Nat) (x : Nat) {o : List Nat} (h : ∀ y ∈ o, y ≤ lim) : ∀ k, ∀ y ∈ aftP p x o k, y ≤ lim
  | 0 => h
  | k + 1 => by
    rw [aftP]
    exact set_le (aftP_le p x h k) (Nat.min_le_right _ _)
theorem aftF_le (V : List (List Nat)) (T : List Nat) : ∀ i, ∀ y ∈ aftF V T i, y ≤ lim
  | 0 => by intro y hy; simp [aftF] at hy; unfold lim; omega
  | i + 1 => by
    rw [aftF]
    exact aftP_le _ _ (aftF_le V T i) _

set_option maxRecDepth 100000 in
set_option maxHeartbeats 1000000 in
theorem after_any (V : List (List Nat)) (hV : WF V) (T : List Nat) (b off cap tb toff tcap : Nat) (w : World) (hv : VAt w b off V) (ht : NatsAt w tb toff T) (hl : T.length = V.length) (hle : ∀ y ∈ T, y ≤ lim) :
    Calls Tryd.prog 59 #[.slice (some ⟨b, off, none⟩) V.length cap, .slice (some ⟨tb, toff, none⟩) V.length tcap] w fun e w' =>
      e = .returned (.slice (some ⟨w.heap.size, 0, none⟩) V.length V.length) ∧ Blk w' w.heap.size 3 (nv (aftV V T)) ∧ Chg (fun _ => False) w w' := by
  have hn6 := hV.le
  have hmk := make_tally V.length (by omega)
  have HV := Lib.hid hv; have HT := Lib.hid ht; have HTL := Lib.hid hl; have HLE := Lib.hid hle; have HWF := Lib.hid hV
  have HB0 := Lib.hid (made_nats V.length w); have HC0 := Lib.hid ((Chg.refl (fun _ => False) w).alloc (.cells (Array.replicate V.length (.int .i64 0)) 3))
  obtain ⟨B, hB⟩ : ∃ B, w.heap.size = B := ⟨_, rfl⟩
  have HB := Lib.hid hB
  rw [hB] at HB0 ⊢
  clear hv ht hl hle hV
  go_enter Tryd.func59, Tryd.ntmps59
  go_wp2_with fail
  clear hmk hB
  generalize w.alloc (.cells (Array.replicate V.length (.int .i64 0)) 3) = W0 at HB0 HC0 ⊢
  go_loopg [14] V.length (fun gm iv wr => ∃ i : Nat, i ≤ V.length ∧ gm = V.length - i ∧ iv = .int .i64 i ∧ Blk wr B 3 (nv (aftF V T i)) ∧ Chg (fun _ => False) w wr)
  case atStart => exact ⟨0, by omega, by omega, rfl, HB0.out, HC0.out⟩
  case round =>
    clear HB0 HC0
    obtain ⟨i, hi, rfl, rfl, hblk, hchg⟩ := hrel
    have HBK := Lib.hid hblk; have HC := Lib.hid hchg
    clear hblk hchg
    by_cases hlt : i < V.length
    · have d0 : decide (i < V.length) = true := by simpa using hlt
      have c0 := (HV.out.chg HC.out (fun x => x)) i hlt
      rw [← part_lt hlt] at c0
      have hp8 := (HWF.out.part_le i).1
      have HP := Lib.hid (HWF.out.part_le i).2
      have HS := Lib.hid (show aftF V T (i + 1) = aftP (part V i) (at0 T i) (aftF V T i) (part V i).length from rfl)
      have hx := at0_le HLE.out i
      have HTC := Lib.hid (nats_at HT.out (i := i) (by rw [HTL.out]; exact hlt))
      have HOL := Lib.hid (aftF_len V T i); have HOE := Lib.hid (aftF_le V T i)
      obtain ⟨p, hp⟩ : ∃ p, part V i = p := ⟨_, rfl⟩
      obtain ⟨x, hxx⟩ : ∃ x, at0 T i = x := ⟨_, rfl⟩
      obtain ⟨o, ho⟩ : ∃ o, aftF V T i = o := ⟨_, rfl⟩
      rw [hp] at c0 hp8 HP HS
      rw [hxx] at HS hx HTC
      rw [ho] at HS HOL HOE HBK
      clear hp hxx ho
      have hsz := str_size p
      go_wp2_with fail
      clear c0
      go_loopg [21] p.length (fun gm kv wr => ∃ k : Nat, k ≤ p.length ∧ gm = p.length - k ∧ kv = .int .i64 k ∧ Blk wr B 3 (nv (aftP p x o k)) ∧ Chg (fun _ => False) w wr)
      case atStart => exact ⟨0, by omega, by omega, rfl, HBK.out, HC.out⟩
      case round =>
        clear HBK HC
        obtain ⟨k, hk, rfl, rfl, hblk, hchg⟩ := hrel
        have HBK := Lib.hid hblk; have HC := Lib.hid hchg
        clear hblk hchg
        by_cases hkl : k < p.length
        · have d1 : decide (k < p.length) = true := by simpa using hkl
          have hcn := HP.out _ (List.getElem_mem hkl)
          have hidx := index_chr hkl (by omega)
          have hu8 := u8_chr p[k] (by omega)
          have HSK : Hid (aftP p x o (k + 1) = (aftP p x o k).set p[k] (min (at0 (aftP p x o k) p[k] + x) lim)) := Lib.hid (by rw [aftP, at0_lt_of hkl])
          have hm := at0_le (aftP_le p x HOE.out k) p[k]
          have k1 := HBK.out.cell_some (nv_at (i := p[k]) (by rw [aftP_len, HOL.out]; omega))
          have k2 := HC.out.cell_some HTC.out (fun x => x)
          obtain ⟨c, hc⟩ : ∃ c, p[k] = c := ⟨_, rfl⟩
          rw [hc] at hcn hu8 HSK hm k1
          simp only [hc] at hidx
          obtain ⟨C, hC⟩ : ∃ C, 97 + c = C := ⟨_, rfl⟩
          rw [hC] at hu8
          simp only [hC] at hidx
          obtain ⟨m, hmm⟩ : ∃ m, at0 (aftP p x o k) c = m := ⟨_, rfl⟩
          rw [hmm] at HSK hm k1
          clear hc hC hmm
          have hci : (c : Int) < (V.length : Int) := by omega
          have hii : (i : Int) < (V.length : Int) := by omega
          have f1 := HBK.out.free c
          have HPL := Lib.hid (plus_any m x hm hx)
          go_wp2_with fail
          go_still_tail 18, (by kernel_rfl)
          still_call (HPL.out _)
          repeat still_step
          refine wpStill_nil ?_
          change wpList _ _ _ _ _ wr.drew
          have HC1 := Lib.hid HC.out.drew; have HB1 := Lib.hid HBK.out.drew
          clear k1 k2 f1 hidx hu8
          generalize wr.drew = W1 at HC1 HB1 ⊢
          have k1 := HB1.out.cell_some (nv_at (i := c) (by rw [aftP_len, HOL.out]; omega))
          have f1 := HB1.out.free c
          go_wp2_with fail
          go_roundg (p.length - (k + 1))
          case measure => omega
          case rel =>
            refine ⟨k + 1, by omega, rfl, by go_num, ?_, HC1.out.setCell (.inr (by rw [HB.out]; exact Nat.le_refl _)) _⟩
            rw [HSK.out, nv_set]
            exact HB1.out.set c _
        · obtain rfl : k = p.length := by omega
          go_wp2_with fail
          go_roundg (V.length - (i + 1))
          case measure => omega
          case rel => exact ⟨i + 1, by omega, rfl, by go_num, by rw [HS.out]; exact HBK.out, HC.out⟩
    · obtain rfl : i = V.length := by omega
      go_wp2_with fail
      go_ret
      exact ⟨rfl, HBK.out, HC.out⟩
end Go.Proofs.YtilacamhjibneaaDoor

/- The tally after some years; which parts live. Their conditions are their premises. -/
namespace Go.Proofs.YtilacamhjibneaaDoor
open Go.RowKit

theorem yearly_any (y : Int) (w : World) : Calls Tryd.prog 68 #[.int .i64 y] w fun e w' => e = .returned (.bool (decide (0 ≤ y ∧ y ≤ 1000))) ∧ w' = w := by
  go_enter Tryd.func68, Tryd.ntmps68
  go_wp2_with fail
  all_goals
    go_ret
    exact ⟨ret_bool (by simp <;> omega), rfl⟩

def agedF (V : List (List Nat)) (t : List Nat) : Nat → List Nat
  | 0 => cntV V.length t
  | y + 1 => aftV V (agedF V t y)
theorem cntV_len (n : Nat) (t : List Nat) : (cntV n t).length = n := cntF_len n t _
theorem agedF_len (V : List (List Nat)) (t : List Nat) : ∀ y, (agedF V t y).length = V.length
  | 0 => cntV_len _ _
  | y + 1 => aftF_len V _ _
theorem agedF_le (V : List (List Nat)) (t : List Nat) (ht : t.length ≤ 200000) : ∀ y, ∀ x ∈ agedF V t y, x ≤ lim
  | 0 => fun x hx => by have := cntF_le V.length t _ x hx; unfold lim; omega
  | y + 1 => aftF_le V _ _

set_option maxRecDepth 100000 in
set_option maxHeartbeats 1000000 in
theorem aged_any (V : List (List Nat)) (hV : WF V) (t : List Nat) (ht : ∀ c ∈ t, c < V.length) (hl : t.length ≤ 200000) (years : Nat) (hy : years ≤ 1000) (b off cap : Nat) (w : World) (hv : VAt w b off V) :
    Calls Tryd.prog 76 #[.slice (some ⟨b, off, none⟩) V.length cap, .string (str t), .int .i64 (years : Int)] w fun e w' =>
      (∃ g, e = .returned (.slice (some ⟨g, 0, none⟩) V.length V.length) ∧ w.heap.size ≤ g ∧ Blk w' g 3 (nv (agedF V t years))) ∧ Chg (fun _ => False) w w' := by
  have HV := Lib.hid hv; have HWF := Lib.hid hV
  have HCN := Lib.hid (counts_any V.length t (some ⟨b, off, none⟩) cap w (by have := hV.le; omega) ht hl)
  have HLE := Lib.hid (agedF_le V t hl); have HLN := Lib.hid (agedF_len V t)
  clear hv hV ht
  go_enter Tryd.func76, Tryd.ntmps76
  go_wp2_with fail
  refine HCN.out.mono ?_
  rintro e w1 ⟨rfl, hb1, hc1⟩
  obtain ⟨g0, hg0⟩ : ∃ g0, w.heap.size = g0 := ⟨_, rfl⟩
  rw [hg0] at hb1 ⊢
  have HB1 := Lib.hid hb1; have HC1 := Lib.hid hc1; have HG0 := Lib.hid (show g0 ≤ g0 from Nat.le_refl _)
  have HGW := Lib.hid hg0
  clear hb1 hc1 hg0
  go_wp2_with fail
  go_loopg [12, 7] years (fun gm iv tv wr => ∃ k g : Nat, k ≤ years ∧ gm = years - k ∧ iv = .int .i64 k ∧ tv = .slice (some ⟨g, 0, none⟩) V.length V.length ∧ g0 ≤ g ∧ Blk wr g 3 (nv (agedF V t k)) ∧ Chg (fun _ => False) w wr)
  case atStart => exact ⟨0, g0, by omega, by omega, rfl, rfl, HG0.out, HB1.out, HC1.out⟩
  case round =>
    clear HB1 HC1
    obtain ⟨k, g, hk, rfl, rfl, rfl, hgg, hblk, hchg⟩ := hrel
    have HBK := Lib.hid hblk; have HC := Lib.hid hchg; have HGG := Lib.hid hgg
    clear hblk hchg hgg
    by_cases hlt : k < years
    · have d0 : decide ((k : Int) < (years : Int)) = true := by simp; omega
      have HA := Lib.hid (after_any V HWF.out (agedF V t k) b off cap g 0 V.length wr (HV.out.chg HC.out (fun x => x)) (nats_of_blk HBK.out) (HLN.out k) (HLE.out k))
      go_wp2_with fail
      refine HA.out.mono ?_
      rintro e w2 ⟨rfl, hb2, hc2⟩
      obtain ⟨g2, hg2⟩ : ∃ g2, wr.heap.size = g2 := ⟨_, rfl⟩
      rw [hg2] at hb2 ⊢
      have HB2 := Lib.hid hb2; have HC2 := Lib.hid (HC.out.trans hc2 (fun _ x => x.elim)); have HG2 := Lib.hid (show g0 ≤ g2 by have := HC.out.size; have := HGW.out; omega)
      clear hb2 hc2 hg2
      go_wp2_with fail
      go_roundg (years - (k + 1))
      case measure => omega
      case rel => exact ⟨k + 1, g2, by omega, rfl, by go_num, rfl, HG2.out, HB2.out, HC2.out⟩
    · obtain rfl : k = years := by omega
      go_wp2_with fail
      go_ret
      exact ⟨⟨g, rfl, by rw [HGW.out]; exact HGG.out, HBK.out⟩, HC.out⟩

def bv (l : List Bool) : List Value := l.map Value.bool
def atB (l : List Bool) (i : Nat) : Bool := l[i]?.getD false
theorem bv_at {N : List Bool} {i : Nat} (h : i < N.length) : (bv N)[i]? = some (.bool (atB N i)) := by
  unfold bv atB
  rw [List.getElem?_map, List.getElem?_eq_getElem h]
  rfl
theorem bv_set (N : List Bool) (i : Nat) (v : Bool) : bv (N.set i v) = (bv N).set i (.bool v) := by
  unfold bv
  rw [List.map_set]
theorem atB_set (N : List Bool) (i : Nat) (v : Bool) (j : Nat) (h : i < N.length) : atB (N.set i v) j = if i = j then v else atB N j := by
  unfold atB
  by_cases hij : i = j
  · subst hij
    rw [if_pos rfl, List.getElem?_set_self h]
    rfl
  · rw [if_neg hij, List.getElem?_set_ne hij]
def BoolsAt (w : World) (b off : Nat) (l : List Bool) : Prop := ∀ k (h : k < l.length), w.cell? ⟨b, off + k, none⟩ = some (.bool l[k])
theorem BoolsAt.chg {S : Nat → Prop} {w w' : World} {b off : Nat} {l : List Bool} (h : BoolsAt w b off l) (hc : Chg S w w') (hn : ¬ S b) : BoolsAt w' b off l := fun k hk => hc.cell_some (h k hk) hn
theorem bools_at {w : World} {b off : Nat} {l : List Bool} (h : BoolsAt w b off l) {i : Nat} (hi : i < l.length) : w.cell? ⟨b, off + i, none⟩ = some (.bool (atB l i)) := by
  have := h i hi
  unfold atB
  rw [List.getElem?_eq_getElem hi]
  exact this
theorem bools_of_blk {w : World} {B e : Nat} {N : List Bool} (h : Blk w B e (bv N)) : BoolsAt w B 0 N := fun k hk => by
  rw [Nat.zero_add]
  refine h.cell_some ?_
  unfold bv
  rw [List.getElem?_map, List.getElem?_eq_getElem hk]
  rfl
theorem info4 : (Tryd.prog.info? 4).map (fun i => (i.zero, i.size, i.bytes)) = some (some (.bool false), 1, 1) := by kernel_rfl
theorem make_bools (N : Nat) (hN : N ≤ 1000) (w : World) : (Instr.makeSlice 77 (.int .i64 N) (.int .i64 N)).run Tryd.prog w = .ok (.slice (some ⟨w.heap.size, 0, none⟩) N N) (w.alloc (.cells (Array.replicate N (.bool false)) 4)) := by
  obtain ⟨i0, hi0, hz0, hz1, hz2⟩ := info_parts info4
  have := run_make (P := Tryd.prog) w 77 4 i0 _ Tryd.underlying77 hi0 hz0 .i64 .i64 N N (by omega) (by omega) (by rw [hz2]; omega) (by omega)
  rw [this, hz1, Nat.mul_one, show (Value.bool false).cells = #[Value.bool false] from rfl, madeCells_one]
  rfl
theorem made_bools (N : Nat) (w : World) : Blk (w.alloc (.cells (Array.replicate N (.bool false)) 4)) w.heap.size 4 (bv (List.replicate N false)) := by
  have := Blk.new w (Array.replicate N (.bool false)) 4
  simpa [bv] using this

/-- Which parts live a year longer, if those of L live. -/
def lvP (p : List Nat) (L : List Bool) (i : Nat) (o : List Bool) : Nat → List Bool
  | 0 => o
  | k + 1 => (lvP p L i o k).set i (atB (lvP p L i o k) i || atB L (at0 p k))
def lvF (V : List (List Nat)) (L : List Bool) : Nat → List Bool
  | 0 => List.replicate V.length false
  | i + 1 => lvP (part V i) L i (lvF V L i) (part V i).length
def livF (V : List (List Nat)) : Nat → List Bool
  | 0 => List.replicate V.length true
  | y + 1 => lvF V (livF V y) V.length
def livV (V : List (List Nat)) (years : Nat) : List Bool := livF V (min years V.length)
theorem lvP_len (p : List Nat) (L : List Bool) (i : Nat) (o : List Bool) : ∀ k, (lvP p L i o k).length = o.length
  | 0 => rfl
  | k + 1 => by rw [lvP, List.length_set, lvP_len p L i o k]
theorem lvF_len (V : List (List Nat)) (L : List Bool) : ∀ i, (lvF V L i).length = V.length
  | 0 => by simp [lvF]
  | i + 1 => by rw [lvF, lvP_len, lvF_len V L i]
theorem livF_len (V : List (List Nat)) : ∀ y, (livF V y).length = V.length
  | 0 => by simp [livF]
  | y + 1 => lvF_len V _ _
end Go.Proofs.YtilacamhjibneaaDoor

/- Which parts live, walked. Its conditions are its premises. -/
namespace Go.Proofs.YtilacamhjibneaaDoor
open Go.RowKit

theorem fill_step (n i : Nat) (hi : i < n) : (List.replicate i true ++ List.replicate (n - i) false).set i true = List.replicate (i + 1) true ++ List.replicate (n - (i + 1)) false := by
  apply List.ext_getElem?
  intro j
  rw [List.getElem?_set]
  by_cases hij : i = j
  · subst hij
    rw [if_pos rfl, if_pos (by simp; omega), List.getElem?_append_left (by simp), List.getElem?_replicate, if_pos (by omega)]
  · rw [if_neg hij]
    by_cases hj : j < i
    · rw [List.getElem?_append_left (by simpa using hj), List.getElem?_append_left (by simp; omega), List.getElem?_replicate, List.getElem?_replicate, if_pos hj, if_pos (by omega)]
    · rw [List.getElem?_append_right (by simp; omega), List.getElem?_append_right (by simp; omega), List.getElem?_replicate, List.getElem?_replicate]
      simp only [List.length_replicate]
      by_cases hn : j < n
      · rw [if_pos (by omega), if_pos (by omega)]
      · rw [if_neg (by omega), if_neg (by omega)]

set_option maxRecDepth 100000 in
set_option maxHeartbeats 1000000 in
theorem living_any (V : List (List Nat)) (hV : WF V) (years : Nat) (hy : years ≤ 1000) (b off cap : Nat) (w : World) (hv : VAt w b off V) :
    Calls Tryd.prog 69 #[.slice (some ⟨b, off, none⟩) V.length cap, .int .i64 (years : Int)] w fun e w' =>
      (∃ g, e = .returned (.slice (some ⟨g, 0, none⟩) V.length V.length) ∧ w.heap.size ≤ g ∧ Blk w' g 4 (bv (livV V years))) ∧ Chg (fun _ => False) w w' := by
  have hn6 := hV.le
  have hmk := make_bools V.length (by omega)
  have HV := Lib.hid hv; have HWF := Lib.hid hV
  have HB0 := Lib.hid (made_bools V.length w); have HC0 := Lib.hid ((Chg.refl (fun _ => False) w).alloc (.cells (Array.replicate V.length (.bool false)) 4))
  obtain ⟨B, hB⟩ : ∃ B, w.heap.size = B := ⟨_, rfl⟩
  have HB := Lib.hid hB
  rw [hB] at HB0
  clear hv hV
  go_enter Tryd.func69, Tryd.ntmps69
  go_wp2_with fail
  clear hB
  generalize w.alloc (.cells (Array.replicate V.length (.bool false)) 4) = W0 at HB0 HC0 ⊢
  go_loopg [16] V.length (fun gm iv wr => ∃ i : Nat, i ≤ V.length ∧ gm = V.length - i ∧ iv = .int .i64 i ∧ Blk wr B 4 (bv (List.replicate i true ++ List.replicate (V.length - i) false)) ∧ Chg (fun _ => False) w wr)
  case atStart => exact ⟨0, by omega, by omega, rfl, HB0.out, HC0.out⟩
  case round =>
    clear HB0 HC0
    obtain ⟨i, hi, rfl, rfl, hblk, hchg⟩ := hrel
    have HBK := Lib.hid hblk; have HC := Lib.hid hchg
    clear hblk hchg
    by_cases hlt : i < V.length
    · have d0 : decide (i < V.length) = true := by simpa using hlt
      have k1 := HBK.out.cell_some (bv_at (i := i) (by simp; omega))
      have f1 := HBK.out.free i
      have HS := Lib.hid (fill_step V.length i hlt)
      go_wp2_with fail
      go_roundg (V.length - (i + 1))
      case measure => omega
      case rel =>
        refine ⟨i + 1, by omega, rfl, by go_num, ?_, HC.out.setCell (.inr (by rw [HB.out]; exact Nat.le_refl _)) _⟩
        rw [← HS.out, bv_set]
        exact HBK.out.set i _
    · obtain rfl : i = V.length := by omega
      have HB1 : Hid (Blk wr B 4 (bv (livF V 0))) := Lib.hid (by have h := HBK.out; simpa [livF] using h)
      clear HBK
      have hsB : B < wr.heap.size := HB1.out.lt
      have HBB := Lib.hid (show B ≤ B from Nat.le_refl _)
      clear hsB
      by_cases hyl : V.length < years
      · have HM := Lib.hid (show min years V.length = V.length by omega)
        go_wp2_with fail
        go_loopg [27, 5] V.length (fun gm iv tv wr => ∃ y g : Nat, y ≤ V.length ∧ gm = V.length - y ∧ iv = .int .i64 y ∧ tv = .slice (some ⟨g, 0, none⟩) V.length V.length ∧ B ≤ g ∧ Blk wr g 4 (bv (livF V y)) ∧ Chg (fun _ => False) w wr)
        case atStart => exact ⟨0, B, by omega, by omega, rfl, rfl, HBB.out, HB1.out, HC.out⟩
        case round =>
          clear HB1 HC
          obtain ⟨y, g, hy, rfl, rfl, rfl, hgg, hblk, hchg⟩ := hrel
          have HBK := Lib.hid hblk; have HC := Lib.hid hchg; have HGG := Lib.hid hgg
          clear hblk hchg hgg
          by_cases hyM : y < V.length
          · have d1 : decide (y < V.length) = true := by simpa using hyM
            have HL := Lib.hid (livF_len V y)
            have HLS := Lib.hid (show livF V (y + 1) = lvF V (livF V y) V.length from rfl)
            obtain ⟨L, hL⟩ : ∃ L, livF V y = L := ⟨_, rfl⟩
            rw [hL] at HBK HL HLS
            clear hL
            have HB2 := Lib.hid (made_bools V.length wr); have HC2 := Lib.hid (HC.out.alloc (.cells (Array.replicate V.length (.bool false)) 4))
            have HBK2 := Lib.hid (HBK.out.alloc (.cells (Array.replicate V.length (.bool false)) 4))
            have hgl : g < wr.heap.size := HBK.out.lt
            obtain ⟨B2, hB2⟩ : ∃ B2, wr.heap.size = B2 := ⟨_, rfl⟩
            rw [hB2] at HB2 hgl
            have HB2S := Lib.hid (show w.heap.size ≤ B2 by have := HC.out.size; omega)
            have HB2G := Lib.hid (show B ≤ B2 by have := HGG.out; omega)
            have HNE := Lib.hid (show g ≠ B2 by omega)
            go_wp2_with fail
            clear hB2 hgl HBK HC
            generalize wr.alloc (.cells (Array.replicate V.length (.bool false)) 4) = W2 at HB2 HC2 HBK2 ⊢
            go_loopg [34] V.length (fun gm iv wr => ∃ i : Nat, i ≤ V.length ∧ gm = V.length - i ∧ iv = .int .i64 i ∧ Blk wr B2 4 (bv (lvF V L i)) ∧ Blk wr g 4 (bv L) ∧ Chg (fun _ => False) w wr)
            case atStart => exact ⟨0, by omega, by omega, rfl, HB2.out, HBK2.out, HC2.out⟩
            case round =>
              clear HB2 HC2 HBK2
              obtain ⟨i, hi, rfl, rfl, hblk, hblg, hchg⟩ := hrel
              have HB2 := Lib.hid hblk; have HBG := Lib.hid hblg; have HC := Lib.hid hchg
              clear hblk hblg hchg
              by_cases hlt : i < V.length
              · have d2 : decide (i < V.length) = true := by simpa using hlt
                have c0 := (HV.out.chg HC.out (fun x => x)) i hlt
                rw [← part_lt hlt] at c0
                have hp8 := (HWF.out.part_le i).1
                have HP := Lib.hid (HWF.out.part_le i).2
                have HS := Lib.hid (show lvF V L (i + 1) = lvP (part V i) L i (lvF V L i) (part V i).length from rfl)
                have HOL := Lib.hid (lvF_len V L i)
                obtain ⟨p, hp⟩ : ∃ p, part V i = p := ⟨_, rfl⟩
                obtain ⟨o, ho⟩ : ∃ o, lvF V L i = o := ⟨_, rfl⟩
                rw [hp] at c0 hp8 HP HS
                rw [ho] at HS HOL HB2
                clear hp ho
                have hsz := str_size p
                go_wp2_with fail
                clear c0
                go_loopg [41] p.length (fun gm kv wr => ∃ k : Nat, k ≤ p.length ∧ gm = p.length - k ∧ kv = .int .i64 k ∧ Blk wr B2 4 (bv (lvP p L i o k)) ∧ Blk wr g 4 (bv L) ∧ Chg (fun _ => False) w wr)
                case atStart => exact ⟨0, by omega, by omega, rfl, HB2.out, HBG.out, HC.out⟩
                case round =>
                  clear HB2 HBG HC
                  obtain ⟨k, hk, rfl, rfl, hblk, hblg, hchg⟩ := hrel
                  have HB2 := Lib.hid hblk; have HBG := Lib.hid hblg; have HC := Lib.hid hchg
                  clear hblk hblg hchg
                  by_cases hkl : k < p.length
                  · have d3 : decide (k < p.length) = true := by simpa using hkl
                    have hcn := HP.out _ (List.getElem_mem hkl)
                    have hidx := index_chr hkl (by omega)
                    have hu8 := u8_chr p[k] (by omega)
                    have HSK : Hid (lvP p L i o (k + 1) = (lvP p L i o k).set i (atB (lvP p L i o k) i || atB L p[k])) := Lib.hid (by rw [lvP, at0_lt_of hkl])
                    have k1 := HB2.out.cell_some (bv_at (i := i) (by rw [lvP_len, HOL.out]; omega))
                    have f1 := HB2.out.free i
                    have k2 := HBG.out.cell_some (bv_at (i := p[k]) (by rw [HL.out]; omega))
                    obtain ⟨c, hc⟩ : ∃ c, p[k] = c := ⟨_, rfl⟩
                    rw [hc] at hcn hu8 HSK k2
                    simp only [hc] at hidx
                    obtain ⟨C, hC⟩ : ∃ C, 97 + c = C := ⟨_, rfl⟩
                    rw [hC] at hu8
                    simp only [hC] at hidx
                    obtain ⟨x, hx⟩ : ∃ x, atB (lvP p L i o k) i = x := ⟨_, rfl⟩
                    obtain ⟨z, hz⟩ : ∃ z, atB L c = z := ⟨_, rfl⟩
                    rw [hx] at HSK k1
                    rw [hz] at HSK k2
                    clear hc hC hx hz
                    have hci : (c : Int) < (V.length : Int) := by omega
                    cases x <;> cases z
                    all_goals
                      go_wp2_with fail
                      go_roundg (p.length - (k + 1))
                      case measure => omega
                      case rel =>
                        refine ⟨k + 1, by omega, rfl, by go_num, ?_, HBG.out.setOther (a := ⟨B2, i, none⟩) (fun h => HNE.out h.symm) _, HC.out.setCell (.inr HB2S.out) _⟩
                        rw [HSK.out, bv_set]
                        exact HB2.out.set i _
                  · obtain rfl : k = p.length := by omega
                    go_wp2_with fail
                    go_roundg (V.length - (i + 1))
                    case measure => omega
                    case rel => exact ⟨i + 1, by omega, rfl, by go_num, by rw [HS.out]; exact HB2.out, HBG.out, HC.out⟩
              · obtain rfl : i = V.length := by omega
                go_wp2_with fail
                go_roundg (V.length - (y + 1))
                case measure => omega
                case rel => exact ⟨y + 1, B2, by omega, rfl, by go_num, rfl, HB2G.out, by rw [HLS.out]; exact HB2.out, HC.out⟩
          · obtain rfl : y = V.length := by omega
            go_wp2_with fail
            go_ret
            exact ⟨⟨g, rfl, by rw [HB.out]; exact HGG.out, by unfold livV; rw [HM.out]; exact HBK.out⟩, HC.out⟩
      · have HM := Lib.hid (show min years V.length = years by omega)
        go_wp2_with fail
        go_loopg [27, 5] years (fun gm iv tv wr => ∃ y g : Nat, y ≤ years ∧ gm = years - y ∧ iv = .int .i64 y ∧ tv = .slice (some ⟨g, 0, none⟩) V.length V.length ∧ B ≤ g ∧ Blk wr g 4 (bv (livF V y)) ∧ Chg (fun _ => False) w wr)
        case atStart => exact ⟨0, B, by omega, by omega, rfl, rfl, HBB.out, HB1.out, HC.out⟩
        case round =>
          clear HB1 HC
          obtain ⟨y, g, hy, rfl, rfl, rfl, hgg, hblk, hchg⟩ := hrel
          have HBK := Lib.hid hblk; have HC := Lib.hid hchg; have HGG := Lib.hid hgg
          clear hblk hchg hgg
          by_cases hyM : y < years
          · have d1 : decide (y < years) = true := by simpa using hyM
            have HL := Lib.hid (livF_len V y)
            have HLS := Lib.hid (show livF V (y + 1) = lvF V (livF V y) V.length from rfl)
            obtain ⟨L, hL⟩ : ∃ L, livF V y = L := ⟨_, rfl⟩
            rw [hL] at HBK HL HLS
            clear hL
            have HB2 := Lib.hid (made_bools V.length wr); have HC2 := Lib.hid (HC.out.alloc (.cells (Array.replicate V.length (.bool false)) 4))
            have HBK2 := Lib.hid (HBK.out.alloc (.cells (Array.replicate V.length (.bool false)) 4))
            have hgl : g < wr.heap.size := HBK.out.lt
            obtain ⟨B2, hB2⟩ : ∃ B2, wr.heap.size = B2 := ⟨_, rfl⟩
            rw [hB2] at HB2 hgl
            have HB2S := Lib.hid (show w.heap.size ≤ B2 by have := HC.out.size; omega)
            have HB2G := Lib.hid (show B ≤ B2 by have := HGG.out; omega)
            have HNE := Lib.hid (show g ≠ B2 by omega)
            go_wp2_with fail
            clear hB2 hgl HBK HC
            generalize wr.alloc (.cells (Array.replicate V.length (.bool false)) 4) = W2 at HB2 HC2 HBK2 ⊢
            go_loopg [34] V.length (fun gm iv wr => ∃ i : Nat, i ≤ V.length ∧ gm = V.length - i ∧ iv = .int .i64 i ∧ Blk wr B2 4 (bv (lvF V L i)) ∧ Blk wr g 4 (bv L) ∧ Chg (fun _ => False) w wr)
            case atStart => exact ⟨0, by omega, by omega, rfl, HB2.out, HBK2.out, HC2.out⟩
            case round =>
              clear HB2 HC2 HBK2
              obtain ⟨i, hi, rfl, rfl, hblk, hblg, hchg⟩ := hrel
              have HB2 := Lib.hid hblk; have HBG := Lib.hid hblg; have HC := Lib.hid hchg
              clear hblk hblg hchg
              by_cases hlt : i < V.length
              · have d2 : decide (i < V.length) = true := by simpa using hlt
                have c0 := (HV.out.chg HC.out (fun x => x)) i hlt
                rw [← part_lt hlt] at c0
                have hp8 := (HWF.out.part_le i).1
                have HP := Lib.hid (HWF.out.part_le i).2
                have HS := Lib.hid (show lvF V L (i + 1) = lvP (part V i) L i (lvF V L i) (part V i).length from rfl)
                have HOL := Lib.hid (lvF_len V L i)
                obtain ⟨p, hp⟩ : ∃ p, part V i = p := ⟨_, rfl⟩
                obtain ⟨o, ho⟩ : ∃ o, lvF V L i = o := ⟨_, rfl⟩
                rw [hp] at c0 hp8 HP HS
                rw [ho] at HS HOL HB2
                clear hp ho
                have hsz := str_size p
                go_wp2_with fail
                clear c0
                go_loopg [41] p.length (fun gm kv wr => ∃ k : Nat, k ≤ p.length ∧ gm = p.length - k ∧ kv = .int .i64 k ∧ Blk wr B2 4 (bv (lvP p L i o k)) ∧ Blk wr g 4 (bv L) ∧ Chg (fun _ => False) w wr)
                case atStart => exact ⟨0, by omega, by omega, rfl, HB2.out, HBG.out, HC.out⟩
                case round =>
                  clear HB2 HBG HC
                  obtain ⟨k, hk, rfl, rfl, hblk, hblg, hchg⟩ := hrel
                  have HB2 := Lib.hid hblk; have HBG := Lib.hid hblg; have HC := Lib.hid hchg
                  clear hblk hblg hchg
                  by_cases hkl : k < p.length
                  · have d3 : decide (k < p.length) = true := by simpa using hkl
                    have hcn := HP.out _ (List.getElem_mem hkl)
                    have hidx := index_chr hkl (by omega)
                    have hu8 := u8_chr p[k] (by omega)
                    have HSK : Hid (lvP p L i o (k + 1) = (lvP p L i o k).set i (atB (lvP p L i o k) i || atB L p[k])) := Lib.hid (by rw [lvP, at0_lt_of hkl])
                    have k1 := HB2.out.cell_some (bv_at (i := i) (by rw [lvP_len, HOL.out]; omega))
                    have f1 := HB2.out.free i
                    have k2 := HBG.out.cell_some (bv_at (i := p[k]) (by rw [HL.out]; omega))
                    obtain ⟨c, hc⟩ : ∃ c, p[k] = c := ⟨_, rfl⟩
                    rw [hc] at hcn hu8 HSK k2
                    simp only [hc] at hidx
                    obtain ⟨C, hC⟩ : ∃ C, 97 + c = C := ⟨_, rfl⟩
                    rw [hC] at hu8
                    simp only [hC] at hidx
                    obtain ⟨x, hx⟩ : ∃ x, atB (lvP p L i o k) i = x := ⟨_, rfl⟩
                    obtain ⟨z, hz⟩ : ∃ z, atB L c = z := ⟨_, rfl⟩
                    rw [hx] at HSK k1
                    rw [hz] at HSK k2
                    clear hc hC hx hz
                    have hci : (c : Int) < (V.length : Int) := by omega
                    cases x <;> cases z
                    all_goals
                      go_wp2_with fail
                      go_roundg (p.length - (k + 1))
                      case measure => omega
                      case rel =>
                        refine ⟨k + 1, by omega, rfl, by go_num, ?_, HBG.out.setOther (a := ⟨B2, i, none⟩) (fun h => HNE.out h.symm) _, HC.out.setCell (.inr HB2S.out) _⟩
                        rw [HSK.out, bv_set]
                        exact HB2.out.set i _
                  · obtain rfl : k = p.length := by omega
                    go_wp2_with fail
                    go_roundg (V.length - (i + 1))
                    case measure => omega
                    case rel => exact ⟨i + 1, by omega, rfl, by go_num, by rw [HS.out]; exact HB2.out, HBG.out, HC.out⟩
              · obtain rfl : i = V.length := by omega
                go_wp2_with fail
                go_roundg (years - (y + 1))
                case measure => omega
                case rel => exact ⟨y + 1, B2, by omega, rfl, by go_num, rfl, HB2G.out, by rw [HLS.out]; exact HB2.out, HC.out⟩
          · obtain rfl : y = years := by omega
            go_wp2_with fail
            go_ret
            exact ⟨⟨g, rfl, by rw [HB.out]; exact HGG.out, by unfold livV; rw [HM.out]; exact HBK.out⟩, HC.out⟩
end Go.Proofs.YtilacamhjibneaaDoor
