/- The closed example of the layer: the statements' alive returns true. No condition. -/
import Derived.Test.YtgamekcjjpjnnaaA16
set_option linter.unusedVariables false
namespace Go.Proofs.Ytgamekcjjpjnnaa
open Go.RowKit

def three (lo hi : Int) : List Sp := [⟨0, 1, lo, hi⟩, ⟨1, 2, lo, hi⟩, ⟨2, 0, lo, hi⟩]

theorem plan_three : planE 10 3 (three 3 4) = ([0, 3, 6], 0) := by decide +kernel
theorem plans_three : plansE 10 3 (three 3 4) = (3, 0) := by decide +kernel
theorem ring_three : ringE 10 3 (three 3 3) = ([1, 2, 3], 0) := by decide +kernel

theorem Blk.spans {w : World} {B : Nat} {e : TypeId} {l : List Sp} (h : Blk w B e (l.flatMap fun s => [.int .i64 s.src, .int .i64 s.dst, .int .i64 s.lo, .int .i64 s.hi])) : SpansAt w B 0 l := by
  intro k hk
  have key : ∀ (l : List Sp) (k : Nat) (hk : k < l.length) (j : Nat) (hj : j < 4), (l.flatMap fun s => [Value.int .i64 s.src, .int .i64 s.dst, .int .i64 s.lo, .int .i64 s.hi])[k * 4 + j]? = [Value.int .i64 l[k].src, .int .i64 l[k].dst, .int .i64 l[k].lo, .int .i64 l[k].hi][j]? := by
    intro l
    induction l with
    | nil => intro k hk; simp at hk
    | cons s l ih =>
      intro k hk j hj
      cases k with
      | zero => rw [List.flatMap_cons, List.getElem?_append_left (by simp; omega)]; simp
      | succ k =>
        rw [List.flatMap_cons, List.getElem?_append_right (by simp; omega)]
        simp only [List.length_cons, List.length_nil, List.getElem_cons_succ]
        rw [show (k + 1) * 4 + j - (0 + 1 + 1 + 1 + 1) = k * 4 + j by omega]
        exact ih k (by simpa using hk) j hj
  refine ⟨?_, ?_, ?_, ?_⟩
  · exact h.cell_some (by rw [Nat.zero_add]; exact key l k hk 0 (by omega))
  · exact h.cell_some (by rw [Nat.zero_add]; exact key l k hk 1 (by omega))
  · exact h.cell_some (by rw [Nat.zero_add]; exact key l k hk 2 (by omega))
  · exact h.cell_some (by rw [Nat.zero_add]; exact key l k hk 3 (by omega))

theorem Blk.ints {w : World} {B : Nat} {e : TypeId} {l : List Int} (h : Blk w B e (l.map (Value.int .i64))) : IntsAt w B 0 l := fun k hk => h.cell_some (by rw [Nat.zero_add]; simp [hk])

theorem three_any (lo hi : Int) (w : World) : Calls Try.prog 42 #[.int .i64 lo, .int .i64 hi] w fun e w' => e = .returned (.slice (some ⟨w.heap.size, 0, none⟩) 3 3) ∧ SpansAt w' w.heap.size 0 (three lo hi) ∧ Chg (fun _ => False) w w' := by
  go_enter Try.func42, Try.ntmps42
  go_wp2
  go_ret
  exact ⟨rfl, Blk.spans (l := three lo hi) (Blk.new w _ _), (Chg.refl _ w).alloc _⟩

set_option maxRecDepth 100000 in
set_option maxHeartbeats 1000000 in
theorem alive_any (w : World) : Calls Try.prog 16 #[] w fun e w' => e = .returned (.bool true) ∧ Chg (fun _ => False) w w' := by
  go_enter Try.func16, Try.ntmps16
  go_wp2_with fail
  refine (three_any 3 4 w).mono ?_
  rintro e w1 ⟨rfl, hs1, hc1⟩
  have HC1 := Lib.hid hc1; have HS1 := Lib.hid hs1; clear hc1 hs1
  go_wp2_with fail
  refine (Plan_any 10 3 (three 3 4) _ _ w1 w.heap.size 0 HS1.out (.inr rfl)).mono ?_
  rw [plan_three]
  rintro e w2 ⟨ao, c, g, rfl, ha, hI, hc2⟩
  have hao : ao = some ⟨g, 0, none⟩ := ha.resolve_left (by simp)
  subst hao
  have HC2 := Lib.hid (HC1.out.trans hc2 (fun _ x => x.elim)); have HI2 := Lib.hid hI; clear hc2 hI ha
  go_wp2_with fail
  refine (three_any 3 4 w2).mono ?_
  rintro e w3 ⟨rfl, hs3, hc3⟩
  have HC3 := Lib.hid (HC2.out.trans hc3 (fun _ x => x.elim)); have HI3 := Lib.hid (HI2.out.chg hc3 (fun x => x)); have HS3 := Lib.hid hs3; clear hc3 hs3
  go_wp2_with fail
  refine (Plans_any 10 3 (three 3 4) _ _ w3 w2.heap.size 0 HS3.out (.inr rfl)).mono ?_
  rw [plans_three]
  rintro e w4 ⟨rfl, hc4⟩
  have HC4 := Lib.hid (HC3.out.trans hc4 (fun _ x => x.elim)); have HI4 := Lib.hid (HI3.out.chg hc4 (fun x => x)); clear hc4
  go_wp2_with fail
  refine (three_any 3 3 w4).mono ?_
  rintro e w5 ⟨rfl, hs5, hc5⟩
  have HC5 := Lib.hid (HC4.out.trans hc5 (fun _ x => x.elim)); have HI5 := Lib.hid (HI4.out.chg hc5 (fun x => x)); have HS5 := Lib.hid hs5; clear hc5 hs5
  go_wp2_with fail
  refine (Ring_any 10 3 (three 3 3) _ _ w5 w4.heap.size 0 HS5.out (.inr rfl)).mono ?_
  rw [ring_three]
  rintro e w6 ⟨ao, c, g2, rfl, ha, hI, hc6⟩
  have hao : ao = some ⟨g2, 0, none⟩ := ha.resolve_left (by simp)
  subst hao
  have HC6 := Lib.hid (HC5.out.trans hc6 (fun _ x => x.elim)); have HI6 := Lib.hid (HI5.out.chg hc6 (fun x => x)); have HJ6 := Lib.hid hI; clear hc6 hI ha
  go_wp2_with fail
  have hc7 : Chg (fun _ => False) w6 (w6.alloc (Obj.cells #[Value.int IntKind.i64 0, Value.int IntKind.i64 3, Value.int IntKind.i64 6] 3)) := (Chg.refl _ w6).alloc _
  have hb7 : IntsAt (w6.alloc (Obj.cells #[Value.int IntKind.i64 0, Value.int IntKind.i64 3, Value.int IntKind.i64 6] 3)) w6.heap.size 0 [0, 3, 6] := Blk.ints (l := [0, 3, 6]) (Blk.new w6 _ _)
  have HC7 := Lib.hid (HC6.out.trans hc7 (fun _ x => x.elim)); have HJ7 := Lib.hid (HJ6.out.chg hc7 (fun x => x)); have hi7 := HI6.out.chg hc7 (fun x => x)
  clear hc7
  generalize (w6.alloc (Obj.cells #[Value.int IntKind.i64 0, Value.int IntKind.i64 3, Value.int IntKind.i64 6] 3)) = w7 at hb7 HC7 HJ7 hi7 ⊢
  refine (same_any [0, 3, 6] [0, 3, 6] _ _ g 0 w6.heap.size 0 _ _ w7 hi7 hb7 (.inr rfl) (.inr rfl) (by simp) (by simp)).mono ?_
  rintro e w8 ⟨rfl, x, rfl⟩
  have HC8 := Lib.hid (HC7.out.grow x); have HJ8 := Lib.hid (HJ7.out.chg (grow_chg w7 x) (fun x => x))
  generalize w7.grow x = w8 at HC8 HJ8 ⊢
  clear hb7 hi7
  go_wp2_with fail
  have hc9 : Chg (fun _ => False) w8 (w8.alloc (Obj.cells #[Value.int IntKind.i64 1, Value.int IntKind.i64 2, Value.int IntKind.i64 3] 3)) := (Chg.refl _ w8).alloc _
  have hb9 : IntsAt (w8.alloc (Obj.cells #[Value.int IntKind.i64 1, Value.int IntKind.i64 2, Value.int IntKind.i64 3] 3)) w8.heap.size 0 [1, 2, 3] := Blk.ints (l := [1, 2, 3]) (Blk.new w8 _ _)
  have HC9 := Lib.hid (HC8.out.trans hc9 (fun _ x => x.elim)); have hj9 := HJ8.out.chg hc9 (fun x => x)
  clear hc9
  generalize (w8.alloc (Obj.cells #[Value.int IntKind.i64 1, Value.int IntKind.i64 2, Value.int IntKind.i64 3] 3)) = w9 at hb9 HC9 hj9 ⊢
  refine (same_any [1, 2, 3] [1, 2, 3] _ _ g2 0 w8.heap.size 0 _ _ w9 hj9 hb9 (.inr rfl) (.inr rfl) (by simp) (by simp)).mono ?_
  rintro e w10 ⟨rfl, x, rfl⟩
  have HC10 := Lib.hid (HC9.out.grow x)
  clear hb9 hj9
  go_wp2_with fail
  go_ret
  exact ⟨rfl, HC10.out⟩
end Go.Proofs.Ytgamekcjjpjnnaa
