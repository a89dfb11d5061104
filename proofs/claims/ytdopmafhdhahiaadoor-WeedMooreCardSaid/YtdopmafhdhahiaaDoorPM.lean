/- The card WeedMirrors. No condition. -/
import Derived.Test.YtdopmafhdhahiaaDoorW18
import Derived.Test.YtdopmafhdhahiaaDoorCards
import Derived.Test.YtdopmafhdhahiaaDoorTie
import Derived.ProofKit
import Derived.LaidMore
import Derived.Stop.Joined
import Derived.OpenShut
set_option linter.unusedVariables false
namespace Go.Proofs.YtdopmafhdhahiaaDoor
open Go.ChangeShapes Go.WideShapes Go.ChangeAt Go.RowKit

theorem gKinds : Tryd.prog.globalNamed "dibber/weed.kinds" = some 0 := by kernel_rfl
theorem tKinds : (Tryd.prog.globals[0]?).map (·.type) = some 38 := by kernel_rfl
theorem cells37 : Tryd.prog.cellsOf 37 = 1 := by kernel_rfl

/-- What the condition gives: the table's two cells. -/
theorem of_laid {W : World} {d1 d2 : DataW Unit} {n1 n2 : String} (h : laidMetH Tryd.prog [(n1, d1), ("dibber/weed.kinds", Rows.laid_dibber_weed_kinds), (n2, d2)] W) : Kinds W := by
  obtain ⟨g, t, cs, fuel, p, hg, ht, hv, hd⟩ := h.funcs (List.mem_cons_of_mem _ List.mem_cons_self)
  obtain rfl := Option.some.inj (gKinds.symm.trans hg)
  obtain rfl := Option.some.inj (tKinds.symm.trans ht)
  obtain ⟨xs, m, rfl, hx, hlen, hxl, hel⟩ := DataW.trod_array Tryd.underlying38 hd
  rw [show Tryd.prog.cellsOf 38 = 2 by kernel_rfl] at hlen
  rw [cells37] at hel
  obtain ⟨c0, c1, hcs⟩ : ∃ c0 c1, cs.toList = [c0, c1] := by
    match h : cs.toList, hlen with
    | [c0, c1], _ => exact ⟨c0, c1, rfl⟩
  obtain ⟨y0, y1, rfl⟩ : ∃ y0 y1, xs = [y0, y1] := by
    match xs, hxl with
    | [y0, y1], _ => exact ⟨y0, y1, rfl⟩
  have e0 := hel 0 (by omega)
  have e1 := hel 1 (by omega)
  rw [hcs] at e0 e1
  have hx' : ((.agg [.held [40, 100, 105, 98, 98, 101, 114, 47, 119, 101, 101, 100, 46, 114, 117, 108, 101, 41, 46, 109, 105, 114, 114, 111, 114, 101, 100], .held [40, 100, 105, 98, 98, 101, 114, 47, 119, 101, 101, 100, 46, 114, 117, 108, 101, 41, 46, 111, 112, 112, 111, 115, 105, 116, 101]] : DataW (List UInt8)), p) = (.agg [y0.1, y1.1], [y0, y1].flatMap (·.2)) := hx
  injection hx' with hxa _
  injection hxa with hxa
  injection hxa with hy0 hxa
  injection hxa with hy1 _
  obtain ⟨z0, q0⟩ := y0
  obtain ⟨z1, q1⟩ := y1
  subst hy0 hy1
  obtain rfl := func_of_trod (f0 := 76) Tryd.underlying37 (by kernel_rfl) e0
  obtain rfl := func_of_trod (f0 := 77) Tryd.underlying37 (by kernel_rfl) e1
  have hc : cs = #[.func (.func 76) #[] #[], .func (.func 77) #[] #[]] := Array.ext' hcs
  have k0 := World.var?_cell hg hv 0
  have k1 := World.var?_cell hg hv 1
  rw [hc] at k0 k1
  exact ⟨by simpa using k0, by simpa using k1⟩

theorem own : ownKnob Tryd.prog.godebug = none := by kernel_rfl

/-- The heap that the door's own run leaves, with the pinned table laid in its place. -/
noncomputable def withFirst (h : Array Go.Obj) : Array Go.Obj := match h[1]? with
  | some (Go.Obj.cells _ t r) => h.setIfInBounds 1 (Go.Obj.cells (Go.Pinned.utf8FirstZ.map fun (n : Nat) => Value.int .u8 (n : Int)).toArray t r)
  | _ => h
noncomputable def wit (os : Os) : World := { World.doorLaid Tryd.prog 24 os with heap := withFirst (World.doorLaid Tryd.prog 24 os).heap }

abbrev laidM : List (String × DataW Unit) := [("unicode/utf8.acceptRanges", Rows.laid_unicode_utf8_acceptRanges), ("dibber/weed.kinds", Rows.laid_dibber_weed_kinds), ("unicode/utf8.first", Rows.laid_unicode_utf8_first)]

set_option maxRecDepth 100000 in
theorem wit_met (os : Os) (args : Array Value) : laidMetH Tryd.prog laidM ((wit os).forCall (fun _ _ => 0) ⟨#[], args, []⟩).memory :=
  laidMetH_of_parts3 (fuel := 8) (laidMet_of_run' 8 (by kernel_rfl) (by kernel_rfl)) (by kernel_rfl) (by kernel_rfl)

set_option maxRecDepth 100000 in
set_option maxHeartbeats 1000000 in
theorem weedMirrors_lifted (os : Os) (started : os.Started) (H : Type) (enc : TypeId × Value → H) :
    ReturnsInHanded {} Tryd.checked os 4 .any (fun w args => (Rows.weedMirrorsSpec.pre enc Tryd.prog Tryd.f4 [] false w args ∧ laidMetH Tryd.prog laidM w) ∧ sizedMet enc Tryd.prog Tryd.f4 (OpenSpec.ofChange Rows.weedMirrorsSpec) false w args)
      (Rows.weedMirrorsSpec.post enc Tryd.prog Tryd.f4 false true false false) := by
  refine returnsInHanded_of_change_and (C := Tryd.checked) (X := fun w _ => laidMetH Tryd.prog laidM w) (fun _ _ _ hh h => h.of_heap hh) own started (by kernel_rfl) Tryd.func4
    (ChangeSpec.witness_shaped (enc := enc) (C := Tryd.checked) (os := os) (X := fun w _ => laidMetH Tryd.prog laidM w) false (wit os) #[.int .i64 0] 8 rfl (World.shaped_of_RefB (by kernel_rfl) (by kernel_rfl)) (by kernel_rfl) (by kernel_rfl) (by kernel_rfl) (wit_met os _)) ?_
  intro W base args ds gs before hval0 hW _ _ hL _
  have hval : ∀ (j : Nat) t v, Tryd.f4.params[j]? = some t → args[j]? = some v → Value.okWide Tryd.prog W .any base t v := hval0
  have hW' := hW
  obtain ⟨p, q, hA0, hV, rfl, hfz, hnd⟩ := hW
  have hA : DataW.TrodAll enc Tryd.prog W 0 (fun _ => true) true Tryd.f4.params.toList args.toList ds p := hA0
  rw [Tryd.params4] at hA hval
  obtain ⟨v0, vs0, d0, ds0, p0, q0, hargs, rfl, rfl, h0, r0⟩ := trodAll_cons hA
  obtain ⟨rfl, rfl, rfl⟩ := trodAll_nil r0
  obtain rfl : args = #[v0] := by cases args; simp_all
  obtain ⟨rfl, rfl⟩ := trodVars_none hV
  obtain ⟨a0, rfl, rfl, rfl, w0⟩ := open_int Tryd.underlying3 (hval 0 3 v0 rfl rfl) h0
  clear hA0 hval0
  refine (mirrors_law a0 W (of_laid hL)).mono fun e W' ⟨he, hch⟩ => ?_
  have bel := hch.below
  subst he
  exact ⟨_, rfl, _, _, _, [], _, [], hW', trodAll_mk1 (shut_bool Tryd.underlying4 _), (trodAll_cons_mk (shut_int Tryd.underlying3 w0) trodAll_mk0), rfl, bel.frame _, fun h => by cases h⟩

theorem weedMirrors_said : Rows.WeedMirrorsSaid :=
  OpenClaim.holds_of_wide 4 Tryd.f4 rfl rfl rfl rfl rfl rfl rfl ⟨rfl, rfl, rfl, rfl, rfl⟩ rfl rfl rfl rfl rfl (by kernel_rfl) Tryd.func4 (by kernel_rfl)
    (of_decide_eq_true (by kernel_rfl)) (by unfold Func.isWrapper; first | (rw [if_pos (by decide +kernel)]; kernel_rfl) | (rw [if_neg (by decide +kernel)]; exact ⟨rfl, rfl⟩))
    (fun os started H enc _ => weedMirrors_lifted os started H enc)
end Go.Proofs.YtdopmafhdhahiaaDoor
