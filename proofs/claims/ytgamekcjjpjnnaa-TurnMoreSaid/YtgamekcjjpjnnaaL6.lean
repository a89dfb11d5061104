/- The walk of the statement TurnMany: it returns true and changes nothing that was there. Its condition is its premise. -/
import Derived.Test.YtgamekcjjpjnnaaM8
import Derived.Test.YtgamekcjjpjnnaaL1
set_option linter.unusedVariables false
namespace Go.Proofs.Ytgamekcjjpjnnaa
open Go.RowKit

theorem u8_of {n : Int} (h : (Lit.int .u8 n).wf = true) : 0 ≤ n ∧ n ≤ 255 := by
  simpa [Lit.wf, IntKind.min, IntKind.max, IntKind.signed, IntKind.bits] using h

theorem no_spans {w : World} : SpansAt w 0 0 [] := fun k hk => by simp at hk

set_option maxRecDepth 100000 in
set_option maxHeartbeats 2000000 in
theorem many_law (h : Int) (w : World) (hh : (Lit.int .u8 h).wf = true) : Calls Try.prog 6 #[.int .u8 h] w (TPost w) := by
  obtain ⟨h1, h2⟩ := u8_of hh
  clear hh
  obtain ⟨T, hT⟩ : ∃ T : Nat, 14 + h % 11 = (T : Int) := ⟨(14 + h % 11).toNat, by omega⟩
  have hT1 : 14 ≤ T := by omega
  have hT2 : T ≤ 24 := by omega
  have HT := Lib.hid hT
  clear hT
  go_enter Try.func6, Try.ntmps6
  go_wp2_with fail
  rw [HT.out]
  refine (Plan_any (T : Int) 6 [] none 0 w 0 0 no_spans (.inl rfl)).mono ?_
  rw [plan_free (by omega) hT2]
  rintro e w1 ⟨ao, c, g, rfl, ha, hI, hc1⟩
  have hao : ao = some ⟨g, 0, none⟩ := ha.resolve_left (by simp)
  subst hao
  have HI1 := Lib.hid hI; have HC1 := Lib.hid hc1
  clear hI hc1 ha
  go_wp2_with fail
  have hc2 : Chg (fun _ => False) w1 (w1.alloc (Obj.cells #[Value.int IntKind.i64 0, Value.int IntKind.i64 0, Value.int IntKind.i64 0, Value.int IntKind.i64 0, Value.int IntKind.i64 0, Value.int IntKind.i64 0] 3)) := (Chg.refl _ w1).alloc _
  have hb2 : IntsAt (w1.alloc (Obj.cells #[Value.int IntKind.i64 0, Value.int IntKind.i64 0, Value.int IntKind.i64 0, Value.int IntKind.i64 0, Value.int IntKind.i64 0, Value.int IntKind.i64 0] 3)) w1.heap.size 0 [0, 0, 0, 0, 0, 0] := Blk.ints (l := [0, 0, 0, 0, 0, 0]) (Blk.new w1 _ _)
  have HC2 := Lib.hid (HC1.out.trans hc2 (fun _ x => x.elim)); have hI2 := HI1.out.chg hc2 (fun x => x)
  clear hc2
  generalize (w1.alloc (Obj.cells #[Value.int IntKind.i64 0, Value.int IntKind.i64 0, Value.int IntKind.i64 0, Value.int IntKind.i64 0, Value.int IntKind.i64 0, Value.int IntKind.i64 0] 3)) = w2 at hb2 HC2 hI2 ⊢
  refine (same_any [0, 0, 0, 0, 0, 0] [0, 0, 0, 0, 0, 0] _ _ g 0 w1.heap.size 0 _ _ w2 hI2 hb2 (.inr rfl) (.inr rfl) (by simp) (by simp)).mono ?_
  rintro e w3 ⟨rfl, x, rfl⟩
  have HC3 := Lib.hid (HC2.out.grow x); have HI3 := Lib.hid (hI2.chg (grow_chg w2 x) (fun x => x))
  generalize w2.grow x = w3 at HC3 HI3 ⊢
  clear hb2 hI2
  by_cases h16 : 16 ≤ T
  · obtain ⟨e1, e2⟩ := many_free h16 hT2
    have E1 := Lib.hid e1; have E2 := Lib.hid e2
    have dt : decide ((15 : Int) < (T : Int)) = true := by rw [decide_eq_true_eq]; omega
    clear e1 e2 h16
    go_wp2_with fail
    refine (Plans_any (T : Int) 6 [] none 0 w3 0 0 no_spans (.inl rfl)).mono ?_
    rw [E1.out]
    rintro e w4 ⟨rfl, hc4⟩
    have HC4 := Lib.hid (HC3.out.trans hc4 (fun _ x => x.elim))
    clear hc4
    go_wp2_with fail
    refine (Shortest_any (T : Int) 6 [] none 0 w4 0 0 no_spans (.inl rfl)).mono ?_
    rw [E2.out]
    rintro e w5 ⟨ao, c5, g5, rfl, _, _, hc5⟩
    have HCX := Lib.hid (HC4.out.trans hc5 (fun _ x => x.elim))
    clear hc5
    go_wp2_with fail
    refine (alive_any _).mono ?_
    rintro e w9 ⟨rfl, hc9⟩
    have HC9 := Lib.hid (HCX.out.trans hc9 (fun _ x => x.elim))
    clear hc9
    go_wp2_with fail
    go_ret
    exact ⟨rfl, HC9.out⟩
  · obtain ⟨e1, e2⟩ := few_free (T := T) (by omega) (by omega)
    have E1 := Lib.hid e1; have E2 := Lib.hid e2
    have h145 : T = 14 ∨ T = 15 := by omega
    clear e1 e2 h16 HT hT1 hT2
    rcases h145 with rfl | rfl
    · go_wp2_with fail
      refine (Plans_any (14 : Nat) 6 [] none 0 w3 0 0 no_spans (.inl rfl)).mono ?_
      rw [E1.out]
      rintro e w4 ⟨rfl, hc4⟩
      have HC4 := Lib.hid (HC3.out.trans hc4 (fun _ x => x.elim)); have HI4 := Lib.hid (HI3.out.chg hc4 (fun x => x))
      clear hc4
      go_wp2_with fail
      refine (Shortest_any (14 : Nat) 6 [] none 0 w4 0 0 no_spans (.inl rfl)).mono ?_
      rw [E2.out]
      rintro e w5 ⟨ao, c5, g5, rfl, ha5, hI5, hc5⟩
      have HCY := Lib.hid (HC4.out.trans hc5 (fun _ x => x.elim)); have HI5 := Lib.hid (HI4.out.chg hc5 (fun x => x)); have HJ5 := Lib.hid hI5; have HA5 := Lib.hid ha5
      clear hc5 hI5 ha5
      go_wp2_with fail
      refine (same_any [0, 0, 0, 0, 0, 0] [0, 0, 0, 0, 0, 0] _ _ g5 0 g 0 _ _ w5 HJ5.out HI5.out HA5.out (.inr rfl) (by simp) (by simp)).mono ?_
      rintro e w6 ⟨rfl, x, rfl⟩
      have HCX := Lib.hid (HCY.out.grow x)
      go_wp2_with fail
      refine (alive_any _).mono ?_
      rintro e w9 ⟨rfl, hc9⟩
      have HC9 := Lib.hid (HCX.out.trans hc9 (fun _ x => x.elim))
      clear hc9
      go_wp2_with fail
      go_ret
      exact ⟨rfl, HC9.out⟩
    · go_wp2_with fail
      refine (Plans_any (15 : Nat) 6 [] none 0 w3 0 0 no_spans (.inl rfl)).mono ?_
      rw [E1.out]
      rintro e w4 ⟨rfl, hc4⟩
      have HC4 := Lib.hid (HC3.out.trans hc4 (fun _ x => x.elim)); have HI4 := Lib.hid (HI3.out.chg hc4 (fun x => x))
      clear hc4
      go_wp2_with fail
      refine (Shortest_any (15 : Nat) 6 [] none 0 w4 0 0 no_spans (.inl rfl)).mono ?_
      rw [E2.out]
      rintro e w5 ⟨ao, c5, g5, rfl, ha5, hI5, hc5⟩
      have HCY := Lib.hid (HC4.out.trans hc5 (fun _ x => x.elim)); have HI5 := Lib.hid (HI4.out.chg hc5 (fun x => x)); have HJ5 := Lib.hid hI5; have HA5 := Lib.hid ha5
      clear hc5 hI5 ha5
      go_wp2_with fail
      refine (same_any [0, 0, 0, 0, 0, 0] [0, 0, 0, 0, 0, 0] _ _ g5 0 g 0 _ _ w5 HJ5.out HI5.out HA5.out (.inr rfl) (by simp) (by simp)).mono ?_
      rintro e w6 ⟨rfl, x, rfl⟩
      have HCX := Lib.hid (HCY.out.grow x)
      go_wp2_with fail
      refine (alive_any _).mono ?_
      rintro e w9 ⟨rfl, hc9⟩
      have HC9 := Lib.hid (HCX.out.trans hc9 (fun _ x => x.elim))
      clear hc9
      go_wp2_with fail
      go_ret
      exact ⟨rfl, HC9.out⟩
end Go.Proofs.Ytgamekcjjpjnnaa
