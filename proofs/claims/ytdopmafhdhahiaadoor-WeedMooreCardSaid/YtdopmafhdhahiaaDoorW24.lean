/- The law WeedOrphans, walked. Its condition: the table of kinds reads as listed. -/
import Derived.Test.YtdopmafhdhahiaaDoorW23
import Derived.Test.YtdopmafhdhahiaaDoorW18
set_option linter.unusedVariables false
namespace Go.Proofs.YtdopmafhdhahiaaDoor
open Go.RowKit Go.Maps

theorem edenV_form (u m : Int) : ∃ (s : ByteArray) (e : Int), edenV u m = .tuple #[.string s, .int .i64 e] := by
  unfold edenV
  split
  · split
    · exact ⟨_, _, rfl⟩
    · exact ⟨_, _, rfl⟩
  · exact ⟨_, _, rfl⟩
theorem ontoV_form (u : Int) : ∃ (x : Bool) (e : Int), ontoV u = .tuple #[.bool x, .int .i64 e] := by
  unfold ontoV
  split
  · exact ⟨_, _, rfl⟩
  · exact ⟨_, _, rfl⟩

set_option maxRecDepth 100000 in
set_option maxHeartbeats 1000000 in
theorem orphans_law (u m : Int) (w : World) (hk : Kinds w) : Calls Tryd.prog 3 #[.int .i64 u, .int .i64 m] w fun e w' => e = .returned (.bool true) ∧ Chg (fun _ => False) w w' := by
  have HK := Lib.hid hk
  obtain ⟨s, e0, hm⟩ := edenV_form u m
  obtain ⟨x, e1, ha⟩ := ontoV_form u
  have HM1 := Lib.hid (fun w' => eden_any u m w')
  have HM2 := Lib.hid (fun w' => reden_any u m w')
  have HA1 := Lib.hid (fun w' => onto_any u w')
  have HA2 := Lib.hid (fun w' => ronto_any u w')
  simp only [hm] at HM1 HM2
  simp only [ha] at HA1 HA2
  clear hk hm ha
  go_enter Tryd.func3, Tryd.ntmps3
  go_wp2_with fail
  refine (HM1.out _).mono ?_
  rintro e w1 ⟨rfl, hc⟩
  have HC1 := Lib.hid hc
  clear hc
  go_wp2_with fail
  refine (HM2.out _).mono ?_
  rintro e w2 ⟨rfl, hc⟩
  have HC2 := Lib.hid (HC1.out.trans hc (fun _ x => x.elim))
  clear hc
  go_wp2_with fail
  refine (HA1.out _).mono ?_
  rintro e w3 ⟨rfl, hc⟩
  have HC3 := Lib.hid (HC2.out.trans hc (fun _ x => x.elim))
  clear hc
  go_wp2_with fail
  refine (HA2.out _).mono ?_
  rintro e w4 ⟨rfl, hc⟩
  have HC4 := Lib.hid (HC3.out.trans hc (fun _ x => x.elim))
  clear hc
  have hxx : (x == x) = true := by simp
  go_wp2_with fail
  refine (alive_any _ (HK.out.chg HC4.out)).mono ?_
  rintro e w5 ⟨rfl, hc⟩
  have HC5 := Lib.hid (HC4.out.trans hc (fun _ x => x.elim))
  clear hc
  go_wp2_with fail
  go_ret
  exact ⟨rfl, HC5.out⟩
end Go.Proofs.YtdopmafhdhahiaaDoor
