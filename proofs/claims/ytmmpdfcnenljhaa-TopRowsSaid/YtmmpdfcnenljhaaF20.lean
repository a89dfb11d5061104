/- What every right program knows of a triangle, walked. No condition. -/
import Derived.Test.YtmmpdfcnenljhaaF19
set_option linter.unusedVariables false
namespace Go.Proofs.Ytmmpdfcnenljhaa
open Go.RowKit

def tri : List Fe := [⟨0, 1⟩, ⟨1, 2⟩, ⟨2, 0⟩]
def two : List Fe := [⟨0, 1⟩, ⟨0, 1⟩]
theorem tri_poly : outTo (polyV 3 3 tri) 15 = [[0, 1, 1], [1]] := by decide +kernel
theorem tri_colours : wrap64 (colourV 3 tri 3) = 6 := by decide +kernel
theorem tri_garden : gardenE 3 tri = 0 := by decide +kernel
theorem tri_groups : groupsV 3 tri (allV tri) = 1 := by decide +kernel
theorem tri_free : valueE 3 tri 2 0 = (6, 0) := by decide +kernel
theorem tri_round : valueE 3 tri 0 2 = (2, 0) := by decide +kernel
theorem two_stands : standsE 2 two 1 2 = (3, 4, 0) := by decide +kernel

theorem three_any (w : World) : Calls Try.prog 32 #[] w fun e w' => ∃ g, e = .returned (.slice (some ⟨g, 0, none⟩) 3 3) ∧ FencesAt w' g 0 tri ∧ Chg (fun _ => False) w w' := by
  go_enter Try.func32, Try.ntmps32
  go_wp2_with fail
  go_ret
  have hb := Blk.new w #[Value.int .i64 0, Value.int .i64 1, Value.int .i64 1, Value.int .i64 2, Value.int .i64 2, Value.int .i64 0] 24
  exact ⟨w.heap.size, rfl, fences_of (fun j u hu => by rw [Nat.zero_add]; exact hb.cell_some hu), (Chg.refl _ w).alloc _⟩
end Go.Proofs.Ytmmpdfcnenljhaa
