/-
  No cell of these rows narrows 'for every input' (looked for: loops, veiled, ifaces, maps, wideKeys, modest, calm, conditions, laid).
  DERIVED. THE GIVEN ROWS OF THIS SEAT. 12 by the template 'for every input the law returns true; each argument reads behind the call as it read before'; 0 by the template 'total and deterministic' (their statements: YtgamekcjjpjnnaaTotals.lean).
  GIVEN WITH THE SEED: the statements are not yours to turn. If you find one false, say at which input.
  Laid BY PROGRAM, IN A SANDBOX (cutbox-rows.mjs): the forced cells as the released guide's own fill.sh prints them over the translation 1bab4901ddb4b28d… (all of the seat's roots in one cut). By AI agents, Wed Nov 11 2026. No macro, syntax, notation, axiom, sorry.
-/
import Derived.Test.YtgamekcjjpjnnaaChecked
import GoSem.Claim
import GoSem.ClaimJoined
import GoSem.ClaimMapViews
import Derived.JoinedTies
import Derived.KernelRfl
namespace Go.Proofs.Ytgamekcjjpjnnaa
/- THE CELL 'sum', in the pinned program and in every row, IS THE sha256 OF THE DUMP (.gsa) THAT YtgamekcjjpjnnaaProg.lean LOADS. Nothing in Lean hashes anything: it is a label: what it is worth is what the hold of that sum in a sandbox is worth. -/
noncomputable def Try.pinned : Pinned := { name := "ytgamekcjjpjnnaa", sum := "1bab4901ddb4b28d9211a80688c59da7a0aea801fa20b7160a658fdcb8c8ef4c", checked := Try.checked }
namespace Rows
def none {H : Type} : Left H := { results := [], args := [] }

/-- 'dibberlaw04.TurnRings': WHATEVER THE INPUT: true; the input reads as it did. -/
def turnRingsSpec : ChangeSpec := { name := "turnRings", fn := fun _ => fun
  | [d1, d2, d3] => { results := [.lit (.bool true)], args := [d1, d2, d3] }
  | _ => none }
def turnRingsRow : OpenClaim := { program := "ytgamekcjjpjnnaa", sum := "1bab4901ddb4b28d9211a80688c59da7a0aea801fa20b7160a658fdcb8c8ef4c", func := "dibber/dibberlaw04.TurnRings", spec := "turnRings", unfollowed := true, recurses := true, apart := false }
def TurnRingsSaid : Prop := turnRingsRow.holds Try.pinned (OpenSpec.ofChange turnRingsSpec)

/-- ITS FALSE NEIGHBOUR: 'it returns false'. Refute it at one input. -/
def turnRingsWrong : ChangeSpec := { name := "turnRings", fn := fun _ => fun
  | [d1, d2, d3] => { results := [.lit (.bool false)], args := [d1, d2, d3] }
  | _ => none }
def TurnRingsWrongFalsely : Prop := turnRingsRow.holds Try.pinned (OpenSpec.ofChange turnRingsWrong)

/-- 'dibberlaw04.TurnMore': WHATEVER THE INPUT: true; the input reads as it did. -/
def turnMoreSpec : ChangeSpec := { name := "turnMore", fn := fun _ => fun
  | [d1, d2, d3, d4, d5, d6, d7] => { results := [.lit (.bool true)], args := [d1, d2, d3, d4, d5, d6, d7] }
  | _ => none }
def turnMoreRow : OpenClaim := { program := "ytgamekcjjpjnnaa", sum := "1bab4901ddb4b28d9211a80688c59da7a0aea801fa20b7160a658fdcb8c8ef4c", func := "dibber/dibberlaw04.TurnMore", spec := "turnMore", unfollowed := true, recurses := true, apart := false }
def TurnMoreSaid : Prop := turnMoreRow.holds Try.pinned (OpenSpec.ofChange turnMoreSpec)

/-- ITS FALSE NEIGHBOUR: 'it returns false'. Refute it at one input. -/
def turnMoreWrong : ChangeSpec := { name := "turnMore", fn := fun _ => fun
  | [d1, d2, d3, d4, d5, d6, d7] => { results := [.lit (.bool false)], args := [d1, d2, d3, d4, d5, d6, d7] }
  | _ => none }
def TurnMoreWrongFalsely : Prop := turnMoreRow.holds Try.pinned (OpenSpec.ofChange turnMoreWrong)

/-- 'dibberlaw04.TurnPlans': WHATEVER THE INPUT: true; the input reads as it did. -/
def turnPlansSpec : ChangeSpec := { name := "turnPlans", fn := fun _ => fun
  | [d1, d2, d3] => { results := [.lit (.bool true)], args := [d1, d2, d3] }
  | _ => none }
def turnPlansRow : OpenClaim := { program := "ytgamekcjjpjnnaa", sum := "1bab4901ddb4b28d9211a80688c59da7a0aea801fa20b7160a658fdcb8c8ef4c", func := "dibber/dibberlaw04.TurnPlans", spec := "turnPlans", unfollowed := true, recurses := true, apart := false }
def TurnPlansSaid : Prop := turnPlansRow.holds Try.pinned (OpenSpec.ofChange turnPlansSpec)

/-- ITS FALSE NEIGHBOUR: 'it returns false'. Refute it at one input. -/
def turnPlansWrong : ChangeSpec := { name := "turnPlans", fn := fun _ => fun
  | [d1, d2, d3] => { results := [.lit (.bool false)], args := [d1, d2, d3] }
  | _ => none }
def TurnPlansWrongFalsely : Prop := turnPlansRow.holds Try.pinned (OpenSpec.ofChange turnPlansWrong)

/-- 'dibberlaw04.TurnMany': WHATEVER THE INPUT: true; the input reads as it did. -/
def turnManySpec : ChangeSpec := { name := "turnMany", fn := fun _ => fun
  | [d] => { results := [.lit (.bool true)], args := [d] }
  | _ => none }
def turnManyRow : OpenClaim := { program := "ytgamekcjjpjnnaa", sum := "1bab4901ddb4b28d9211a80688c59da7a0aea801fa20b7160a658fdcb8c8ef4c", func := "dibber/dibberlaw04.TurnMany", spec := "turnMany", unfollowed := true, recurses := true, apart := false }
def TurnManySaid : Prop := turnManyRow.holds Try.pinned (OpenSpec.ofChange turnManySpec)

/-- ITS FALSE NEIGHBOUR: 'it returns false'. Refute it at one input. -/
def turnManyWrong : ChangeSpec := { name := "turnMany", fn := fun _ => fun
  | [d] => { results := [.lit (.bool false)], args := [d] }
  | _ => none }
def TurnManyWrongFalsely : Prop := turnManyRow.holds Try.pinned (OpenSpec.ofChange turnManyWrong)

/-- 'dibberlaw04.TurnRefuses': WHATEVER THE INPUT: true; the input reads as it did. -/
def turnRefusesSpec : ChangeSpec := { name := "turnRefuses", fn := fun _ => fun
  | [d1, d2, d3, d4] => { results := [.lit (.bool true)], args := [d1, d2, d3, d4] }
  | _ => none }
def turnRefusesRow : OpenClaim := { program := "ytgamekcjjpjnnaa", sum := "1bab4901ddb4b28d9211a80688c59da7a0aea801fa20b7160a658fdcb8c8ef4c", func := "dibber/dibberlaw04.TurnRefuses", spec := "turnRefuses", unfollowed := true, recurses := true, apart := false }
def TurnRefusesSaid : Prop := turnRefusesRow.holds Try.pinned (OpenSpec.ofChange turnRefusesSpec)

/-- ITS FALSE NEIGHBOUR: 'it returns false'. Refute it at one input. -/
def turnRefusesWrong : ChangeSpec := { name := "turnRefuses", fn := fun _ => fun
  | [d1, d2, d3, d4] => { results := [.lit (.bool false)], args := [d1, d2, d3, d4] }
  | _ => none }
def TurnRefusesWrongFalsely : Prop := turnRefusesRow.holds Try.pinned (OpenSpec.ofChange turnRefusesWrong)

/-- 'dibberlaw04.TurnTurned': WHATEVER THE INPUT: true; the input reads as it did. -/
def turnTurnedSpec : ChangeSpec := { name := "turnTurned", fn := fun _ => fun
  | [d1, d2, d3, d4] => { results := [.lit (.bool true)], args := [d1, d2, d3, d4] }
  | _ => none }
def turnTurnedRow : OpenClaim := { program := "ytgamekcjjpjnnaa", sum := "1bab4901ddb4b28d9211a80688c59da7a0aea801fa20b7160a658fdcb8c8ef4c", func := "dibber/dibberlaw04.TurnTurned", spec := "turnTurned", unfollowed := true, recurses := true, apart := false }
def TurnTurnedSaid : Prop := turnTurnedRow.holds Try.pinned (OpenSpec.ofChange turnTurnedSpec)

/-- ITS FALSE NEIGHBOUR: 'it returns false'. Refute it at one input. -/
def turnTurnedWrong : ChangeSpec := { name := "turnTurned", fn := fun _ => fun
  | [d1, d2, d3, d4] => { results := [.lit (.bool false)], args := [d1, d2, d3, d4] }
  | _ => none }
def TurnTurnedWrongFalsely : Prop := turnTurnedRow.holds Try.pinned (OpenSpec.ofChange turnTurnedWrong)

/-- 'dibberlaw04.TurnIs': WHATEVER THE INPUT: true; the input reads as it did. -/
def turnIsSpec : ChangeSpec := { name := "turnIs", fn := fun _ => fun
  | [d1, d2, d3, d4] => { results := [.lit (.bool true)], args := [d1, d2, d3, d4] }
  | _ => none }
def turnIsRow : OpenClaim := { program := "ytgamekcjjpjnnaa", sum := "1bab4901ddb4b28d9211a80688c59da7a0aea801fa20b7160a658fdcb8c8ef4c", func := "dibber/dibberlaw04.TurnIs", spec := "turnIs", unfollowed := true, recurses := true, apart := false }
def TurnIsSaid : Prop := turnIsRow.holds Try.pinned (OpenSpec.ofChange turnIsSpec)

/-- ITS FALSE NEIGHBOUR: 'it returns false'. Refute it at one input. -/
def turnIsWrong : ChangeSpec := { name := "turnIs", fn := fun _ => fun
  | [d1, d2, d3, d4] => { results := [.lit (.bool false)], args := [d1, d2, d3, d4] }
  | _ => none }
def TurnIsWrongFalsely : Prop := turnIsRow.holds Try.pinned (OpenSpec.ofChange turnIsWrong)

/-- 'dibberlaw04.TurnMoved': WHATEVER THE INPUT: true; the input reads as it did. -/
def turnMovedSpec : ChangeSpec := { name := "turnMoved", fn := fun _ => fun
  | [d1, d2, d3, d4, d5] => { results := [.lit (.bool true)], args := [d1, d2, d3, d4, d5] }
  | _ => none }
def turnMovedRow : OpenClaim := { program := "ytgamekcjjpjnnaa", sum := "1bab4901ddb4b28d9211a80688c59da7a0aea801fa20b7160a658fdcb8c8ef4c", func := "dibber/dibberlaw04.TurnMoved", spec := "turnMoved", unfollowed := true, recurses := true, apart := false }
def TurnMovedSaid : Prop := turnMovedRow.holds Try.pinned (OpenSpec.ofChange turnMovedSpec)

/-- ITS FALSE NEIGHBOUR: 'it returns false'. Refute it at one input. -/
def turnMovedWrong : ChangeSpec := { name := "turnMoved", fn := fun _ => fun
  | [d1, d2, d3, d4, d5] => { results := [.lit (.bool false)], args := [d1, d2, d3, d4, d5] }
  | _ => none }
def TurnMovedWrongFalsely : Prop := turnMovedRow.holds Try.pinned (OpenSpec.ofChange turnMovedWrong)

/-- 'dibberlaw04.TurnRefused': WHATEVER THE INPUT: true; the input reads as it did. -/
def turnRefusedSpec : ChangeSpec := { name := "turnRefused", fn := fun _ => fun
  | [d1, d2, d3, d4] => { results := [.lit (.bool true)], args := [d1, d2, d3, d4] }
  | _ => none }
def turnRefusedRow : OpenClaim := { program := "ytgamekcjjpjnnaa", sum := "1bab4901ddb4b28d9211a80688c59da7a0aea801fa20b7160a658fdcb8c8ef4c", func := "dibber/dibberlaw04.TurnRefused", spec := "turnRefused", unfollowed := true, recurses := true, apart := false }
def TurnRefusedSaid : Prop := turnRefusedRow.holds Try.pinned (OpenSpec.ofChange turnRefusedSpec)

/-- ITS FALSE NEIGHBOUR: 'it returns false'. Refute it at one input. -/
def turnRefusedWrong : ChangeSpec := { name := "turnRefused", fn := fun _ => fun
  | [d1, d2, d3, d4] => { results := [.lit (.bool false)], args := [d1, d2, d3, d4] }
  | _ => none }
def TurnRefusedWrongFalsely : Prop := turnRefusedRow.holds Try.pinned (OpenSpec.ofChange turnRefusedWrong)

/-- 'dibberlaw04.TurnShort': WHATEVER THE INPUT: true; the input reads as it did. -/
def turnShortSpec : ChangeSpec := { name := "turnShort", fn := fun _ => fun
  | [d1, d2, d3, d4] => { results := [.lit (.bool true)], args := [d1, d2, d3, d4] }
  | _ => none }
def turnShortRow : OpenClaim := { program := "ytgamekcjjpjnnaa", sum := "1bab4901ddb4b28d9211a80688c59da7a0aea801fa20b7160a658fdcb8c8ef4c", func := "dibber/dibberlaw04.TurnShort", spec := "turnShort", unfollowed := true, recurses := true, apart := false }
def TurnShortSaid : Prop := turnShortRow.holds Try.pinned (OpenSpec.ofChange turnShortSpec)

/-- ITS FALSE NEIGHBOUR: 'it returns false'. Refute it at one input. -/
def turnShortWrong : ChangeSpec := { name := "turnShort", fn := fun _ => fun
  | [d1, d2, d3, d4] => { results := [.lit (.bool false)], args := [d1, d2, d3, d4] }
  | _ => none }
def TurnShortWrongFalsely : Prop := turnShortRow.holds Try.pinned (OpenSpec.ofChange turnShortWrong)

/-- 'dibberlaw04.TurnWhole': WHATEVER THE INPUT: true; the input reads as it did. -/
def turnWholeSpec : ChangeSpec := { name := "turnWhole", fn := fun _ => fun
  | [d1, d2, d3, d4, d5] => { results := [.lit (.bool true)], args := [d1, d2, d3, d4, d5] }
  | _ => none }
def turnWholeRow : OpenClaim := { program := "ytgamekcjjpjnnaa", sum := "1bab4901ddb4b28d9211a80688c59da7a0aea801fa20b7160a658fdcb8c8ef4c", func := "dibber/dibberlaw04.TurnWhole", spec := "turnWhole", unfollowed := true, recurses := true, apart := false }
def TurnWholeSaid : Prop := turnWholeRow.holds Try.pinned (OpenSpec.ofChange turnWholeSpec)

/-- ITS FALSE NEIGHBOUR: 'it returns false'. Refute it at one input. -/
def turnWholeWrong : ChangeSpec := { name := "turnWhole", fn := fun _ => fun
  | [d1, d2, d3, d4, d5] => { results := [.lit (.bool false)], args := [d1, d2, d3, d4, d5] }
  | _ => none }
def TurnWholeWrongFalsely : Prop := turnWholeRow.holds Try.pinned (OpenSpec.ofChange turnWholeWrong)

/-- 'dibberlaw04.TurnRounds': WHATEVER THE INPUT: true; the input reads as it did. -/
def turnRoundsSpec : ChangeSpec := { name := "turnRounds", fn := fun _ => fun
  | [d1, d2, d3, d4, d5] => { results := [.lit (.bool true)], args := [d1, d2, d3, d4, d5] }
  | _ => none }
def turnRoundsRow : OpenClaim := { program := "ytgamekcjjpjnnaa", sum := "1bab4901ddb4b28d9211a80688c59da7a0aea801fa20b7160a658fdcb8c8ef4c", func := "dibber/dibberlaw04.TurnRounds", spec := "turnRounds", unfollowed := true, recurses := true, apart := false }
def TurnRoundsSaid : Prop := turnRoundsRow.holds Try.pinned (OpenSpec.ofChange turnRoundsSpec)

/-- ITS FALSE NEIGHBOUR: 'it returns false'. Refute it at one input. -/
def turnRoundsWrong : ChangeSpec := { name := "turnRounds", fn := fun _ => fun
  | [d1, d2, d3, d4, d5] => { results := [.lit (.bool false)], args := [d1, d2, d3, d4, d5] }
  | _ => none }
def TurnRoundsWrongFalsely : Prop := turnRoundsRow.holds Try.pinned (OpenSpec.ofChange turnRoundsWrong)

/- THE SECOND FORM. 'bulk': how many values and letters a reading holds, each counted each time it is reached (what is shared counts as often as it is met; a slice's spare places count too). A statement '..UptoSaid' is the law's where the arguments, and the package variables that the reading takes, are together of bulk at most 1048576: NARROWER than '..Said'. Prove '..Said' where nothing that the law and all that it calls make is longer than what came in: it says more and counts as full. Else prove '..UptoSaid'. A law counts once. -/
mutual
def uptoBulk {H : Type} : DataW H → Nat
  | .lit (.string bytes) => bytes.length + 1
  | .lit _ => 1
  | .nil => 1
  | .ptr d => uptoBulk d + 1
  | .slice elems spare => uptoBulkAll elems + uptoBulkAll spare + 1
  | .agg parts => uptoBulkAll parts + 1
  | .iface _ d => uptoBulk d + 1
  | .map entries => uptoBulkEntries entries + 1
  | .held _ => 1
def uptoBulkAll {H : Type} : List (DataW H) → Nat
  | [] => 0
  | d :: r => uptoBulk d + uptoBulkAll r
def uptoBulkEntries {H : Type} : List (Lit × DataW H) → Nat
  | [] => 0
  | x :: r => uptoBulkEntry x + uptoBulkEntries r
def uptoBulkEntry {H : Type} : Lit × DataW H → Nat
  | (.string bytes, d) => bytes.length + uptoBulk d + 1
  | (_, d) => uptoBulk d + 1
 end
def uptoSmall : (H : Type) → List (DataW H) → Bool := fun _ ds => decide (uptoBulkAll ds ≤ 1048576)
def OpenSpec.upto (s : _root_.Go.ChangeSpec) : _root_.Go.OpenSpec := { _root_.Go.OpenSpec.ofChange s with cond := some uptoSmall }

/-- 'dibberlaw04.TurnRings', WHERE WHAT IT READS IS OF BULK AT MOST 1048576: true; the input reads as it did. -/
def turnRingsUptoRow : OpenClaim := { program := "ytgamekcjjpjnnaa", sum := "1bab4901ddb4b28d9211a80688c59da7a0aea801fa20b7160a658fdcb8c8ef4c", func := "dibber/dibberlaw04.TurnRings", spec := "turnRings", unfollowed := true, recurses := true, apart := false, narrowed := true }
def TurnRingsUptoSaid : Prop := turnRingsUptoRow.holds Try.pinned (OpenSpec.upto turnRingsSpec)

/-- 'dibberlaw04.TurnMore', WHERE WHAT IT READS IS OF BULK AT MOST 1048576: true; the input reads as it did. -/
def turnMoreUptoRow : OpenClaim := { program := "ytgamekcjjpjnnaa", sum := "1bab4901ddb4b28d9211a80688c59da7a0aea801fa20b7160a658fdcb8c8ef4c", func := "dibber/dibberlaw04.TurnMore", spec := "turnMore", unfollowed := true, recurses := true, apart := false, narrowed := true }
def TurnMoreUptoSaid : Prop := turnMoreUptoRow.holds Try.pinned (OpenSpec.upto turnMoreSpec)

/-- 'dibberlaw04.TurnPlans', WHERE WHAT IT READS IS OF BULK AT MOST 1048576: true; the input reads as it did. -/
def turnPlansUptoRow : OpenClaim := { program := "ytgamekcjjpjnnaa", sum := "1bab4901ddb4b28d9211a80688c59da7a0aea801fa20b7160a658fdcb8c8ef4c", func := "dibber/dibberlaw04.TurnPlans", spec := "turnPlans", unfollowed := true, recurses := true, apart := false, narrowed := true }
def TurnPlansUptoSaid : Prop := turnPlansUptoRow.holds Try.pinned (OpenSpec.upto turnPlansSpec)

/-- 'dibberlaw04.TurnMany', WHERE WHAT IT READS IS OF BULK AT MOST 1048576: true; the input reads as it did. -/
def turnManyUptoRow : OpenClaim := { program := "ytgamekcjjpjnnaa", sum := "1bab4901ddb4b28d9211a80688c59da7a0aea801fa20b7160a658fdcb8c8ef4c", func := "dibber/dibberlaw04.TurnMany", spec := "turnMany", unfollowed := true, recurses := true, apart := false, narrowed := true }
def TurnManyUptoSaid : Prop := turnManyUptoRow.holds Try.pinned (OpenSpec.upto turnManySpec)

/-- 'dibberlaw04.TurnRefuses', WHERE WHAT IT READS IS OF BULK AT MOST 1048576: true; the input reads as it did. -/
def turnRefusesUptoRow : OpenClaim := { program := "ytgamekcjjpjnnaa", sum := "1bab4901ddb4b28d9211a80688c59da7a0aea801fa20b7160a658fdcb8c8ef4c", func := "dibber/dibberlaw04.TurnRefuses", spec := "turnRefuses", unfollowed := true, recurses := true, apart := false, narrowed := true }
def TurnRefusesUptoSaid : Prop := turnRefusesUptoRow.holds Try.pinned (OpenSpec.upto turnRefusesSpec)

/-- 'dibberlaw04.TurnTurned', WHERE WHAT IT READS IS OF BULK AT MOST 1048576: true; the input reads as it did. -/
def turnTurnedUptoRow : OpenClaim := { program := "ytgamekcjjpjnnaa", sum := "1bab4901ddb4b28d9211a80688c59da7a0aea801fa20b7160a658fdcb8c8ef4c", func := "dibber/dibberlaw04.TurnTurned", spec := "turnTurned", unfollowed := true, recurses := true, apart := false, narrowed := true }
def TurnTurnedUptoSaid : Prop := turnTurnedUptoRow.holds Try.pinned (OpenSpec.upto turnTurnedSpec)

/-- 'dibberlaw04.TurnIs', WHERE WHAT IT READS IS OF BULK AT MOST 1048576: true; the input reads as it did. -/
def turnIsUptoRow : OpenClaim := { program := "ytgamekcjjpjnnaa", sum := "1bab4901ddb4b28d9211a80688c59da7a0aea801fa20b7160a658fdcb8c8ef4c", func := "dibber/dibberlaw04.TurnIs", spec := "turnIs", unfollowed := true, recurses := true, apart := false, narrowed := true }
def TurnIsUptoSaid : Prop := turnIsUptoRow.holds Try.pinned (OpenSpec.upto turnIsSpec)

/-- 'dibberlaw04.TurnMoved', WHERE WHAT IT READS IS OF BULK AT MOST 1048576: true; the input reads as it did. -/
def turnMovedUptoRow : OpenClaim := { program := "ytgamekcjjpjnnaa", sum := "1bab4901ddb4b28d9211a80688c59da7a0aea801fa20b7160a658fdcb8c8ef4c", func := "dibber/dibberlaw04.TurnMoved", spec := "turnMoved", unfollowed := true, recurses := true, apart := false, narrowed := true }
def TurnMovedUptoSaid : Prop := turnMovedUptoRow.holds Try.pinned (OpenSpec.upto turnMovedSpec)

/-- 'dibberlaw04.TurnRefused', WHERE WHAT IT READS IS OF BULK AT MOST 1048576: true; the input reads as it did. -/
def turnRefusedUptoRow : OpenClaim := { program := "ytgamekcjjpjnnaa", sum := "1bab4901ddb4b28d9211a80688c59da7a0aea801fa20b7160a658fdcb8c8ef4c", func := "dibber/dibberlaw04.TurnRefused", spec := "turnRefused", unfollowed := true, recurses := true, apart := false, narrowed := true }
def TurnRefusedUptoSaid : Prop := turnRefusedUptoRow.holds Try.pinned (OpenSpec.upto turnRefusedSpec)

/-- 'dibberlaw04.TurnShort', WHERE WHAT IT READS IS OF BULK AT MOST 1048576: true; the input reads as it did. -/
def turnShortUptoRow : OpenClaim := { program := "ytgamekcjjpjnnaa", sum := "1bab4901ddb4b28d9211a80688c59da7a0aea801fa20b7160a658fdcb8c8ef4c", func := "dibber/dibberlaw04.TurnShort", spec := "turnShort", unfollowed := true, recurses := true, apart := false, narrowed := true }
def TurnShortUptoSaid : Prop := turnShortUptoRow.holds Try.pinned (OpenSpec.upto turnShortSpec)

/-- 'dibberlaw04.TurnWhole', WHERE WHAT IT READS IS OF BULK AT MOST 1048576: true; the input reads as it did. -/
def turnWholeUptoRow : OpenClaim := { program := "ytgamekcjjpjnnaa", sum := "1bab4901ddb4b28d9211a80688c59da7a0aea801fa20b7160a658fdcb8c8ef4c", func := "dibber/dibberlaw04.TurnWhole", spec := "turnWhole", unfollowed := true, recurses := true, apart := false, narrowed := true }
def TurnWholeUptoSaid : Prop := turnWholeUptoRow.holds Try.pinned (OpenSpec.upto turnWholeSpec)

/-- 'dibberlaw04.TurnRounds', WHERE WHAT IT READS IS OF BULK AT MOST 1048576: true; the input reads as it did. -/
def turnRoundsUptoRow : OpenClaim := { program := "ytgamekcjjpjnnaa", sum := "1bab4901ddb4b28d9211a80688c59da7a0aea801fa20b7160a658fdcb8c8ef4c", func := "dibber/dibberlaw04.TurnRounds", spec := "turnRounds", unfollowed := true, recurses := true, apart := false, narrowed := true }
def TurnRoundsUptoSaid : Prop := turnRoundsUptoRow.holds Try.pinned (OpenSpec.upto turnRoundsSpec)

end Rows
end Go.Proofs.Ytgamekcjjpjnnaa
