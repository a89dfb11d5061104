/- The law WeedMirrors, walked. Its conditions are its premises. -/
import Derived.Test.YtdopmafhdhahiaaDoorW17
set_option linter.unusedVariables false
namespace Go.Proofs.YtdopmafhdhahiaaDoor
open Go.RowKit Go.Maps

theorem mirV_form (u : Int) : ∃ a b e : Int, mirV u = .tuple #[.int .i64 a, .int .i64 b, .int .i64 e] := by
  unfold mirV
  split
  · exact ⟨_, _, _, rfl⟩
  · exact ⟨_, _, _, rfl⟩
theorem addV_form (u : Int) : ∃ (x : Bool) (e : Int), addV u = .tuple #[.bool x, .int .i64 e] := by
  unfold addV
  split
  · exact ⟨_, _, rfl⟩
  · exact ⟨_, _, rfl⟩

set_option maxRecDepth 100000 in
set_option maxHeartbeats 1000000 in
theorem mirrors_law (u : Int) (w : World) (hk : Kinds w) : Calls Tryd.prog 4 #[.int .i64 u] w fun e w' => e = .returned (.bool true) ∧ Chg (fun _ => False) w w' := by
  have HK := Lib.hid hk
  obtain ⟨a, b, e0, hm⟩ := mirV_form u
  obtain ⟨x, e1, ha⟩ := addV_form u
  have HM1 := Lib.hid (fun w' (h : Kinds w') => mirror_any u w' h)
  have HM2 := Lib.hid (fun w' => rmirror_any u w')
  have HA1 := Lib.hid (fun w' => additive_any u w')
  have HA2 := Lib.hid (fun w' => radditive_any u w')
  simp only [hm] at HM1 HM2
  simp only [ha] at HA1 HA2
  clear hk hm ha
  go_enter Tryd.func4, Tryd.ntmps4
  go_wp2_with fail
  refine (HM1.out _ HK.out).mono ?_
  rintro e w1 ⟨rfl, hc⟩
  have HC1 := Lib.hid hc
  clear hc
  go_wp2_with fail
  refine (HM2.out _).mono ?_
  rintro e w2 ⟨rfl, rfl⟩
  go_wp2_with fail
  refine (HA1.out _).mono ?_
  rintro e w3 ⟨rfl, rfl⟩
  go_wp2_with fail
  refine (HA2.out _).mono ?_
  rintro e w4 ⟨rfl, hc⟩
  have HC2 := Lib.hid (HC1.out.trans hc (fun _ x => x.elim))
  clear hc
  have hxx : (x == x) = true := by simp
  go_wp2_with fail
  refine (alive_any _ (HK.out.chg HC2.out)).mono ?_
  rintro e w5 ⟨rfl, hc⟩
  have HC3 := Lib.hid (HC2.out.trans hc (fun _ x => x.elim))
  clear hc
  go_wp2_with fail
  go_ret
  exact ⟨rfl, HC3.out⟩
end Go.Proofs.YtdopmafhdhahiaaDoor
