/- The tied card WeedMirrors. No condition. -/
import Derived.Test.YtdopmafhdhahiaaDoorPM
import Derived.SevenTiedAt
set_option linter.unusedVariables false
namespace Go.Proofs.YtdopmafhdhahiaaDoor
open Go

theorem weedMirrorsCard_holds : Rows.WeedMirrorsCardSaid :=
  Claim7.holds_tied_plain_at .later [] [.data, .funcs, .pinned] true (true, "e8a5a2572c4e0b081c8533126332a3bdfa458005835351d39c5d1db264877813") false
    weedMirrors_said (fun _ h => by cases h) (by kernel_rfl) (fun _ h => by cases h) weedMirrors_row_tie rfl ⟨rfl, rfl⟩ (by kernel_rfl) rfl
    (fun f fn hf hfn => by
      obtain rfl : f = 4 := Option.some.inj ((show Tryd.prog.funcNamed "dibber/dibberlaw02.WeedMirrors" = some 4 by kernel_rfl).symm.trans hf) |>.symm
      obtain rfl : fn = Tryd.f4 := (Option.some.inj (Tryd.func4.symm.trans hfn)).symm
      exact ⟨by kernel_rfl, fun j t ht => by
        rw [Tryd.params4] at ht
        have hm : t ∈ [3] := by simpa using Array.mem_of_getElem? ht
        have hall : ([3].all fun u => !Tryd.prog.wantsStandIn u) = true := by kernel_rfl
        exact (show Tryd.prog.wantsStandIn t = false by simpa using List.all_eq_true.1 hall t hm)⟩)
    (by kernel_rfl)
#print axioms weedMirrorsCard_holds
end Go.Proofs.YtdopmafhdhahiaaDoor
