/- The sets that have been seen: a map of the call's own, from numbers to true. Its conditions are its premises. -/
import Derived.Test.YtdopmafhdhahiaaDoorW8
import Derived.Maps.Own
import Derived.Maps.Views
set_option linter.unusedVariables false
namespace Go.Proofs.YtdopmafhdhahiaaDoor
open Go.RowKit Go.Maps

theorem law45 : Keyed Tryd.prog 45 := int_keyed Tryd.underlying45
theorem zero4 (w : World) : (zeroValue 4).run Tryd.prog w = .ok (.bool false) w := by kernel_rfl
theorem wf_nat {e : Nat} (he : e < 1000) : (Lit.int .i64 (e : Int)).wf = true := WalkArith.wf_i64 (by omega)
theorem key45 {e : Nat} (he : e < 1000) : keyOf Tryd.prog 45 (.int .i64 (e : Int)) = some (.int .i64 (e : Int)) := keyOf_int_mk Tryd.underlying45 (wf_nat he)

def seenD (S : List Nat) : DataW Unit := S.foldl (fun d (e : Nat) => d.put (.int .i64 (e : Int)) (.lit (.bool true))) (.map [])
theorem seenD_snoc (S : List Nat) (e : Nat) : seenD (S ++ [e]) = (seenD S).put (.int .i64 (e : Int)) (.lit (.bool true)) := by
  unfold seenD
  rw [List.foldl_append]
  rfl
theorem isMap_put {d : DataW Unit} (h : IsMap d) (k : Lit) (x : DataW Unit) : IsMap (d.put k x) := by
  obtain ⟨es, rfl⟩ := h
  exact ⟨_, rfl⟩
theorem seenD_isMap (S : List Nat) : IsMap (seenD S) := by
  suffices ∀ (S : List Nat) (d : DataW Unit), IsMap d → IsMap (S.foldl (fun d (e : Nat) => d.put (.int .i64 (e : Int)) (.lit (.bool true))) d) from this S _ ⟨[], rfl⟩
  intro S
  induction S with
  | nil => exact fun d h => h
  | cons e S ih => exact fun d h => ih _ (isMap_put h _ _)

theorem seenD_at (e : Nat) : ∀ (S : List Nat), (seenD S).atKey (.int .i64 (e : Int)) (.lit (.bool false)) = .lit (.bool (decide (e ∈ S))) := by
  suffices ∀ (n : Nat) (S : List Nat), S.length = n → (seenD S).atKey (.int .i64 (e : Int)) (.lit (.bool false)) = .lit (.bool (decide (e ∈ S))) from fun S => this _ S rfl
  intro n
  induction n with
  | zero =>
    intro S hS
    obtain rfl := List.length_eq_zero_iff.1 hS
    simp
    rfl
  | succ n ih =>
    intro S hS
    obtain ⟨T, x, rfl⟩ : ∃ T x, S = T ++ [x] := ⟨S.dropLast, S.getLast (by intro h; simp [h] at hS), (List.dropLast_concat_getLast _).symm⟩
    rw [seenD_snoc]
    by_cases hx : e = x
    · subst hx
      rw [atKey_put_same (seenD_isMap T) (by trivial)]
      simp
    · rw [atKey_put_other (by intro h; injection h with _ h; omega), ih T (by simpa using hS)]
      simp [hx]

theorem plainElem_bool_inv {v : Value} {z : DataW Unit × List MemPlace} (h : plainElem Tryd.prog 4 v = some z) : ∃ x, v = .bool x ∧ z = (.lit (.bool x), []) := by
  unfold plainElem at h
  rw [Tryd.underlying4] at h
  cases v <;> simp at h
  exact ⟨_, rfl, h.symm⟩

/-- Block b is a map in which the numbers S have been seen. -/
def Seen (w : World) (b : Nat) (S : List Nat) : Prop := w.ownsMap (H := Unit) Tryd.prog 45 (plainElem Tryd.prog 4) b S.length (seenD S)

theorem Seen.lt {w : World} {b : Nat} {S : List Nat} (h : Seen w b S) : b < w.heap.size := World.ownsMap.lt h
theorem Seen.chg {w w' : World} {b : Nat} {S : List Nat} {T : Nat → Prop} (h : Seen w b S) (hc : Chg T w w') (hn : ¬ T b) : Seen w' b S := by
  have hlt := h.lt
  obtain ⟨es, clock, hb, F, hs, hD⟩ := h
  exact ⟨es, clock, (hc.block b hlt hn).trans hb, F, hs, hD⟩

theorem Seen.look {w : World} {b : Nat} {S : List Nat} (h : Seen w b S) {e : Nat} (he : e < 1000) : (Instr.lookup 48 (.map (some b)) (.int .i64 (e : Int)) false).run Tryd.prog w = .ok (.bool (decide (e ∈ S))) w := by
  obtain ⟨v, ps, hrun, hv⟩ := World.ownsMap.lookup h law45 Tryd.underlying48 (zero4 w) (plainElem_bool Tryd.underlying4 false) (key45 he)
  obtain ⟨x, rfl, hx⟩ := plainElem_bool_inv hv
  rw [seenD_at] at hx
  injection hx with hx _
  injection hx with hx
  injection hx with hx
  rw [hrun, hx]

theorem Seen.put {w : World} {b : Nat} {S : List Nat} (h : Seen w b S) (hS : S.length < 1000) {e : Nat} (he : e < 1000) :
    ∃ w', (Instr.mapUpdate 48 (.map (some b)) (.int .i64 (e : Int)) (.bool true)).run Tryd.prog w = .ok () w' ∧ Seen w' b (S ++ [e]) ∧ Chg (fun k => k = b) w w' := by
  obtain ⟨w', hrun, ho, hg⟩ := World.ownsMap.update h law45 Tryd.underlying48 (by unfold maxLen; omega) (key45 he) (plainElem_bool (H := Unit) Tryd.underlying4 true)
  refine ⟨w', hrun, ?_, hg.os, hg.tape, hg.output, hg.size, fun k hk hn => hg.block k hk (by intro e; injection e with e; exact hn e)⟩
  unfold Seen
  rw [seenD_snoc]
  simpa using ho

theorem wpList_seen {w : World} {ops : Array Oper} {rest : List Oper} {o : Oper} {a : Act} {Q : Exit → Act → World → Prop} (hg : o.guard = none) (m x v : Operand) (hop : o.op = Op.mapUpdate 48 m x v ∨ o.op = Op.insert 48 m x v)
    (b : Nat) (S : List Nat) (hm : a.eval m = .map (some b)) (h : Seen w b S) (hS : S.length < 1000) (e : Nat) (he : e < 1000) (hx : a.eval x = .int .i64 (e : Int)) (hv : a.eval v = .bool true)
    (hK : ∀ w', Seen w' b (S ++ [e]) → Chg (fun k => k = b) w w' → wpList Tryd.prog ops Q rest (a.put o.dst undef) w') : wpList Tryd.prog ops Q (o :: rest) a w := by
  refine wpList_plain hg fun K' hK' => ?_
  obtain ⟨w', hrun, r1, r2⟩ := h.put hS he
  unfold Oper.wp
  rcases hop with hop | hop <;>
  · simp [execOp, hop, hm, hx, hv, hrun, Result.andThen]
    exact hK' _ _ (hK w' r1 r2)
end Go.Proofs.YtdopmafhdhahiaaDoor
