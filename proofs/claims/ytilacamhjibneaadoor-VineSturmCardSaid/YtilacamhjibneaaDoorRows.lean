/-
  NARROWER THAN 'FOR EVERY INPUT', by the rows' own cells (each row's printed sentence says how): VineFactors: laid · VineRecurs: laid · VineKinds: laid · VineEndless: laid · VineGrows: laid · VineSturm: laid · VineRepeats: laid · VineSame: laid · VineAt: laid · VineOrders: laid · VineBuds: laid · VineAdds: laid.
  DERIVED. THE GIVEN ROWS OF THIS SEAT. 12 by the template 'for every input the law returns true; each argument reads behind the call as it read before'; 0 by the template 'total and deterministic' (their statements: YtilacamhjibneaaDoorTotals.lean).
  GIVEN WITH THE SEED: the statements are not yours to turn. If you find one false, say at which input.
  Laid BY PROGRAM, IN A SANDBOX (cutbox-rows.mjs): the forced cells as the released guide's own fill.sh prints them over the translation ef2e2cf1c7fd4567… (all of the seat's roots in one cut). By AI agents, Wed Nov 11 2026. No macro, syntax, notation, axiom, sorry.
-/
import Derived.Test.YtilacamhjibneaaDoorChecked
import GoSem.PinnedTables
import GoSem.Claim
import GoSem.ClaimJoined
import GoSem.ClaimMapViews
import Derived.JoinedTies
import Derived.KernelRfl
namespace Go.Proofs.YtilacamhjibneaaDoor
/- THE CELL 'sum', in the pinned program and in every row, IS THE sha256 OF THE DUMP (.gsa) THAT YtilacamhjibneaaDoorProg.lean LOADS. Nothing in Lean hashes anything: it is a label: what it is worth is what the hold of that sum in a sandbox is worth. -/
noncomputable def Tryd.pinned : Pinned := { name := "ytilacamhjibneaadoor", sum := "ef2e2cf1c7fd4567125585f9884baac362567b56bb992c876f67332d7d015b35", checked := Tryd.checked }
namespace Rows
def none {H : Type} : Left H := { results := [], args := [] }

/- WHAT THE LISTED PACKAGE-LEVEL VARIABLES READ AS WHEN THE CALL BEGINS. Each datum BY PROGRAM (the guide's laid-datum.mjs) off the statement by which the dump's own 'gosem.cut.vars' lays the variable. In a bare row this is a premise. The card (YtilacamhjibneaaDoorCards.lean) ties it to the program's text. -/
def laid_unicode_utf8_acceptRanges {H : Type} : DataW H := .agg [.agg [.lit (.int .u8 128), .lit (.int .u8 191)], .agg [.lit (.int .u8 160), .lit (.int .u8 191)], .agg [.lit (.int .u8 128), .lit (.int .u8 159)], .agg [.lit (.int .u8 144), .lit (.int .u8 191)], .agg [.lit (.int .u8 128), .lit (.int .u8 143)], .agg [.lit (.int .u8 0), .lit (.int .u8 0)], .agg [.lit (.int .u8 0), .lit (.int .u8 0)], .agg [.lit (.int .u8 0), .lit (.int .u8 0)], .agg [.lit (.int .u8 0), .lit (.int .u8 0)], .agg [.lit (.int .u8 0), .lit (.int .u8 0)], .agg [.lit (.int .u8 0), .lit (.int .u8 0)], .agg [.lit (.int .u8 0), .lit (.int .u8 0)], .agg [.lit (.int .u8 0), .lit (.int .u8 0)], .agg [.lit (.int .u8 0), .lit (.int .u8 0)], .agg [.lit (.int .u8 0), .lit (.int .u8 0)], .agg [.lit (.int .u8 0), .lit (.int .u8 0)]]
/-- One of Go's own tables, pinned by name: the form's constant. -/
def laid_unicode_utf8_first : DataW Unit := Go.Pinned.utf8First

/-- 'dibberlaw03.VineFactors': WHATEVER THE INPUT: true; the input reads as it did. -/
def vineFactorsSpec : ChangeSpec := { name := "vineFactors", fn := fun _ => fun
  | [d1, d2, d3] => { results := [.lit (.bool true)], args := [d1, d2, d3] }
  | _ => none }
def vineFactorsRow : OpenClaim := { program := "ytilacamhjibneaadoor", sum := "ef2e2cf1c7fd4567125585f9884baac362567b56bb992c876f67332d7d015b35", func := "dibber/dibberlaw03.VineFactors", spec := "vineFactors", inPlace := ["internal/abi.NoEscape", "internal/bytealg.MakeNoZero"], unfollowed := true, recurses := true, named := ["unicode/utf8.first", "unicode/utf8.acceptRanges"], apart := false, laid := [("unicode/utf8.acceptRanges", laid_unicode_utf8_acceptRanges), ("unicode/utf8.first", laid_unicode_utf8_first)] }
def VineFactorsSaid : Prop := vineFactorsRow.holds Tryd.pinned (OpenSpec.ofChange vineFactorsSpec)

/-- ITS FALSE NEIGHBOUR: 'it returns false'. Refute it at one input. -/
def vineFactorsWrong : ChangeSpec := { name := "vineFactors", fn := fun _ => fun
  | [d1, d2, d3] => { results := [.lit (.bool false)], args := [d1, d2, d3] }
  | _ => none }
def VineFactorsWrongFalsely : Prop := vineFactorsRow.holds Tryd.pinned (OpenSpec.ofChange vineFactorsWrong)

/-- 'dibberlaw03.VineRecurs': WHATEVER THE INPUT: true; the input reads as it did. -/
def vineRecursSpec : ChangeSpec := { name := "vineRecurs", fn := fun _ => fun
  | [d1, d2] => { results := [.lit (.bool true)], args := [d1, d2] }
  | _ => none }
def vineRecursRow : OpenClaim := { program := "ytilacamhjibneaadoor", sum := "ef2e2cf1c7fd4567125585f9884baac362567b56bb992c876f67332d7d015b35", func := "dibber/dibberlaw03.VineRecurs", spec := "vineRecurs", inPlace := ["internal/abi.NoEscape", "internal/bytealg.MakeNoZero"], unfollowed := true, recurses := true, named := ["unicode/utf8.first", "unicode/utf8.acceptRanges"], apart := false, laid := [("unicode/utf8.acceptRanges", laid_unicode_utf8_acceptRanges), ("unicode/utf8.first", laid_unicode_utf8_first)] }
def VineRecursSaid : Prop := vineRecursRow.holds Tryd.pinned (OpenSpec.ofChange vineRecursSpec)

/-- ITS FALSE NEIGHBOUR: 'it returns false'. Refute it at one input. -/
def vineRecursWrong : ChangeSpec := { name := "vineRecurs", fn := fun _ => fun
  | [d1, d2] => { results := [.lit (.bool false)], args := [d1, d2] }
  | _ => none }
def VineRecursWrongFalsely : Prop := vineRecursRow.holds Tryd.pinned (OpenSpec.ofChange vineRecursWrong)

/-- 'dibberlaw03.VineKinds': WHATEVER THE INPUT: true; the input reads as it did. -/
def vineKindsSpec : ChangeSpec := { name := "vineKinds", fn := fun _ => fun
  | [d1, d2] => { results := [.lit (.bool true)], args := [d1, d2] }
  | _ => none }
def vineKindsRow : OpenClaim := { program := "ytilacamhjibneaadoor", sum := "ef2e2cf1c7fd4567125585f9884baac362567b56bb992c876f67332d7d015b35", func := "dibber/dibberlaw03.VineKinds", spec := "vineKinds", inPlace := ["internal/abi.NoEscape", "internal/bytealg.MakeNoZero"], unfollowed := true, recurses := true, named := ["unicode/utf8.first", "unicode/utf8.acceptRanges"], apart := false, laid := [("unicode/utf8.acceptRanges", laid_unicode_utf8_acceptRanges), ("unicode/utf8.first", laid_unicode_utf8_first)] }
def VineKindsSaid : Prop := vineKindsRow.holds Tryd.pinned (OpenSpec.ofChange vineKindsSpec)

/-- ITS FALSE NEIGHBOUR: 'it returns false'. Refute it at one input. -/
def vineKindsWrong : ChangeSpec := { name := "vineKinds", fn := fun _ => fun
  | [d1, d2] => { results := [.lit (.bool false)], args := [d1, d2] }
  | _ => none }
def VineKindsWrongFalsely : Prop := vineKindsRow.holds Tryd.pinned (OpenSpec.ofChange vineKindsWrong)

/-- 'dibberlaw03.VineEndless': WHATEVER THE INPUT: true; the input reads as it did. -/
def vineEndlessSpec : ChangeSpec := { name := "vineEndless", fn := fun _ => fun
  | [d1, d2, d3] => { results := [.lit (.bool true)], args := [d1, d2, d3] }
  | _ => none }
def vineEndlessRow : OpenClaim := { program := "ytilacamhjibneaadoor", sum := "ef2e2cf1c7fd4567125585f9884baac362567b56bb992c876f67332d7d015b35", func := "dibber/dibberlaw03.VineEndless", spec := "vineEndless", inPlace := ["internal/abi.NoEscape", "internal/bytealg.MakeNoZero"], unfollowed := true, recurses := true, named := ["unicode/utf8.first", "unicode/utf8.acceptRanges"], apart := false, laid := [("unicode/utf8.acceptRanges", laid_unicode_utf8_acceptRanges), ("unicode/utf8.first", laid_unicode_utf8_first)] }
def VineEndlessSaid : Prop := vineEndlessRow.holds Tryd.pinned (OpenSpec.ofChange vineEndlessSpec)

/-- ITS FALSE NEIGHBOUR: 'it returns false'. Refute it at one input. -/
def vineEndlessWrong : ChangeSpec := { name := "vineEndless", fn := fun _ => fun
  | [d1, d2, d3] => { results := [.lit (.bool false)], args := [d1, d2, d3] }
  | _ => none }
def VineEndlessWrongFalsely : Prop := vineEndlessRow.holds Tryd.pinned (OpenSpec.ofChange vineEndlessWrong)

/-- 'dibberlaw03.VineGrows': WHATEVER THE INPUT: true; the input reads as it did. -/
def vineGrowsSpec : ChangeSpec := { name := "vineGrows", fn := fun _ => fun
  | [d1, d2, d3] => { results := [.lit (.bool true)], args := [d1, d2, d3] }
  | _ => none }
def vineGrowsRow : OpenClaim := { program := "ytilacamhjibneaadoor", sum := "ef2e2cf1c7fd4567125585f9884baac362567b56bb992c876f67332d7d015b35", func := "dibber/dibberlaw03.VineGrows", spec := "vineGrows", inPlace := ["internal/abi.NoEscape", "internal/bytealg.MakeNoZero"], unfollowed := true, recurses := true, named := ["unicode/utf8.first", "unicode/utf8.acceptRanges"], apart := false, laid := [("unicode/utf8.acceptRanges", laid_unicode_utf8_acceptRanges), ("unicode/utf8.first", laid_unicode_utf8_first)] }
def VineGrowsSaid : Prop := vineGrowsRow.holds Tryd.pinned (OpenSpec.ofChange vineGrowsSpec)

/-- ITS FALSE NEIGHBOUR: 'it returns false'. Refute it at one input. -/
def vineGrowsWrong : ChangeSpec := { name := "vineGrows", fn := fun _ => fun
  | [d1, d2, d3] => { results := [.lit (.bool false)], args := [d1, d2, d3] }
  | _ => none }
def VineGrowsWrongFalsely : Prop := vineGrowsRow.holds Tryd.pinned (OpenSpec.ofChange vineGrowsWrong)

/-- 'dibberlaw03.VineSturm': WHATEVER THE INPUT: true; the input reads as it did. -/
def vineSturmSpec : ChangeSpec := { name := "vineSturm", fn := fun _ => fun
  | [d1, d2] => { results := [.lit (.bool true)], args := [d1, d2] }
  | _ => none }
def vineSturmRow : OpenClaim := { program := "ytilacamhjibneaadoor", sum := "ef2e2cf1c7fd4567125585f9884baac362567b56bb992c876f67332d7d015b35", func := "dibber/dibberlaw03.VineSturm", spec := "vineSturm", inPlace := ["internal/abi.NoEscape", "internal/bytealg.MakeNoZero"], unfollowed := true, recurses := true, named := ["unicode/utf8.first", "unicode/utf8.acceptRanges"], apart := false, laid := [("unicode/utf8.acceptRanges", laid_unicode_utf8_acceptRanges), ("unicode/utf8.first", laid_unicode_utf8_first)] }
def VineSturmSaid : Prop := vineSturmRow.holds Tryd.pinned (OpenSpec.ofChange vineSturmSpec)

/-- ITS FALSE NEIGHBOUR: 'it returns false'. Refute it at one input. -/
def vineSturmWrong : ChangeSpec := { name := "vineSturm", fn := fun _ => fun
  | [d1, d2] => { results := [.lit (.bool false)], args := [d1, d2] }
  | _ => none }
def VineSturmWrongFalsely : Prop := vineSturmRow.holds Tryd.pinned (OpenSpec.ofChange vineSturmWrong)

/-- 'dibberlaw03.VineRepeats': WHATEVER THE INPUT: true; the input reads as it did. -/
def vineRepeatsSpec : ChangeSpec := { name := "vineRepeats", fn := fun _ => fun
  | [d1, d2, d3, d4] => { results := [.lit (.bool true)], args := [d1, d2, d3, d4] }
  | _ => none }
def vineRepeatsRow : OpenClaim := { program := "ytilacamhjibneaadoor", sum := "ef2e2cf1c7fd4567125585f9884baac362567b56bb992c876f67332d7d015b35", func := "dibber/dibberlaw03.VineRepeats", spec := "vineRepeats", inPlace := ["internal/abi.NoEscape", "internal/bytealg.MakeNoZero"], unfollowed := true, recurses := true, named := ["unicode/utf8.first", "unicode/utf8.acceptRanges"], apart := false, laid := [("unicode/utf8.acceptRanges", laid_unicode_utf8_acceptRanges), ("unicode/utf8.first", laid_unicode_utf8_first)] }
def VineRepeatsSaid : Prop := vineRepeatsRow.holds Tryd.pinned (OpenSpec.ofChange vineRepeatsSpec)

/-- ITS FALSE NEIGHBOUR: 'it returns false'. Refute it at one input. -/
def vineRepeatsWrong : ChangeSpec := { name := "vineRepeats", fn := fun _ => fun
  | [d1, d2, d3, d4] => { results := [.lit (.bool false)], args := [d1, d2, d3, d4] }
  | _ => none }
def VineRepeatsWrongFalsely : Prop := vineRepeatsRow.holds Tryd.pinned (OpenSpec.ofChange vineRepeatsWrong)

/-- 'dibberlaw03.VineSame': WHATEVER THE INPUT: true; the input reads as it did. -/
def vineSameSpec : ChangeSpec := { name := "vineSame", fn := fun _ => fun
  | [d1, d2, d3, d4] => { results := [.lit (.bool true)], args := [d1, d2, d3, d4] }
  | _ => none }
def vineSameRow : OpenClaim := { program := "ytilacamhjibneaadoor", sum := "ef2e2cf1c7fd4567125585f9884baac362567b56bb992c876f67332d7d015b35", func := "dibber/dibberlaw03.VineSame", spec := "vineSame", inPlace := ["internal/abi.NoEscape", "internal/bytealg.MakeNoZero"], unfollowed := true, recurses := true, named := ["unicode/utf8.first", "unicode/utf8.acceptRanges"], apart := false, laid := [("unicode/utf8.acceptRanges", laid_unicode_utf8_acceptRanges), ("unicode/utf8.first", laid_unicode_utf8_first)] }
def VineSameSaid : Prop := vineSameRow.holds Tryd.pinned (OpenSpec.ofChange vineSameSpec)

/-- ITS FALSE NEIGHBOUR: 'it returns false'. Refute it at one input. -/
def vineSameWrong : ChangeSpec := { name := "vineSame", fn := fun _ => fun
  | [d1, d2, d3, d4] => { results := [.lit (.bool false)], args := [d1, d2, d3, d4] }
  | _ => none }
def VineSameWrongFalsely : Prop := vineSameRow.holds Tryd.pinned (OpenSpec.ofChange vineSameWrong)

/-- 'dibberlaw03.VineAt': WHATEVER THE INPUT: true; the input reads as it did. -/
def vineAtSpec : ChangeSpec := { name := "vineAt", fn := fun _ => fun
  | [d1, d2, d3, d4] => { results := [.lit (.bool true)], args := [d1, d2, d3, d4] }
  | _ => none }
def vineAtRow : OpenClaim := { program := "ytilacamhjibneaadoor", sum := "ef2e2cf1c7fd4567125585f9884baac362567b56bb992c876f67332d7d015b35", func := "dibber/dibberlaw03.VineAt", spec := "vineAt", inPlace := ["internal/abi.NoEscape", "internal/bytealg.MakeNoZero"], unfollowed := true, recurses := true, named := ["unicode/utf8.first", "unicode/utf8.acceptRanges"], apart := false, laid := [("unicode/utf8.acceptRanges", laid_unicode_utf8_acceptRanges), ("unicode/utf8.first", laid_unicode_utf8_first)] }
def VineAtSaid : Prop := vineAtRow.holds Tryd.pinned (OpenSpec.ofChange vineAtSpec)

/-- ITS FALSE NEIGHBOUR: 'it returns false'. Refute it at one input. -/
def vineAtWrong : ChangeSpec := { name := "vineAt", fn := fun _ => fun
  | [d1, d2, d3, d4] => { results := [.lit (.bool false)], args := [d1, d2, d3, d4] }
  | _ => none }
def VineAtWrongFalsely : Prop := vineAtRow.holds Tryd.pinned (OpenSpec.ofChange vineAtWrong)

/-- 'dibberlaw03.VineOrders': WHATEVER THE INPUT: true; the input reads as it did. -/
def vineOrdersSpec : ChangeSpec := { name := "vineOrders", fn := fun _ => fun
  | [d1, d2, d3] => { results := [.lit (.bool true)], args := [d1, d2, d3] }
  | _ => none }
def vineOrdersRow : OpenClaim := { program := "ytilacamhjibneaadoor", sum := "ef2e2cf1c7fd4567125585f9884baac362567b56bb992c876f67332d7d015b35", func := "dibber/dibberlaw03.VineOrders", spec := "vineOrders", inPlace := ["internal/abi.NoEscape", "internal/bytealg.MakeNoZero"], unfollowed := true, recurses := true, named := ["unicode/utf8.first", "unicode/utf8.acceptRanges"], apart := false, laid := [("unicode/utf8.acceptRanges", laid_unicode_utf8_acceptRanges), ("unicode/utf8.first", laid_unicode_utf8_first)] }
def VineOrdersSaid : Prop := vineOrdersRow.holds Tryd.pinned (OpenSpec.ofChange vineOrdersSpec)

/-- ITS FALSE NEIGHBOUR: 'it returns false'. Refute it at one input. -/
def vineOrdersWrong : ChangeSpec := { name := "vineOrders", fn := fun _ => fun
  | [d1, d2, d3] => { results := [.lit (.bool false)], args := [d1, d2, d3] }
  | _ => none }
def VineOrdersWrongFalsely : Prop := vineOrdersRow.holds Tryd.pinned (OpenSpec.ofChange vineOrdersWrong)

/-- 'dibberlaw03.VineBuds': WHATEVER THE INPUT: true; the input reads as it did. -/
def vineBudsSpec : ChangeSpec := { name := "vineBuds", fn := fun _ => fun
  | [d1, d2, d3, d4, d5] => { results := [.lit (.bool true)], args := [d1, d2, d3, d4, d5] }
  | _ => none }
def vineBudsRow : OpenClaim := { program := "ytilacamhjibneaadoor", sum := "ef2e2cf1c7fd4567125585f9884baac362567b56bb992c876f67332d7d015b35", func := "dibber/dibberlaw03.VineBuds", spec := "vineBuds", inPlace := ["internal/abi.NoEscape", "internal/bytealg.MakeNoZero"], unfollowed := true, recurses := true, named := ["unicode/utf8.first", "unicode/utf8.acceptRanges"], apart := false, laid := [("unicode/utf8.acceptRanges", laid_unicode_utf8_acceptRanges), ("unicode/utf8.first", laid_unicode_utf8_first)] }
def VineBudsSaid : Prop := vineBudsRow.holds Tryd.pinned (OpenSpec.ofChange vineBudsSpec)

/-- ITS FALSE NEIGHBOUR: 'it returns false'. Refute it at one input. -/
def vineBudsWrong : ChangeSpec := { name := "vineBuds", fn := fun _ => fun
  | [d1, d2, d3, d4, d5] => { results := [.lit (.bool false)], args := [d1, d2, d3, d4, d5] }
  | _ => none }
def VineBudsWrongFalsely : Prop := vineBudsRow.holds Tryd.pinned (OpenSpec.ofChange vineBudsWrong)

/-- 'dibberlaw03.VineAdds': WHATEVER THE INPUT: true; the input reads as it did. -/
def vineAddsSpec : ChangeSpec := { name := "vineAdds", fn := fun _ => fun
  | [d1, d2, d3, d4, d5] => { results := [.lit (.bool true)], args := [d1, d2, d3, d4, d5] }
  | _ => none }
def vineAddsRow : OpenClaim := { program := "ytilacamhjibneaadoor", sum := "ef2e2cf1c7fd4567125585f9884baac362567b56bb992c876f67332d7d015b35", func := "dibber/dibberlaw03.VineAdds", spec := "vineAdds", inPlace := ["internal/abi.NoEscape", "internal/bytealg.MakeNoZero"], unfollowed := true, recurses := true, named := ["unicode/utf8.first", "unicode/utf8.acceptRanges"], apart := false, laid := [("unicode/utf8.acceptRanges", laid_unicode_utf8_acceptRanges), ("unicode/utf8.first", laid_unicode_utf8_first)] }
def VineAddsSaid : Prop := vineAddsRow.holds Tryd.pinned (OpenSpec.ofChange vineAddsSpec)

/-- ITS FALSE NEIGHBOUR: 'it returns false'. Refute it at one input. -/
def vineAddsWrong : ChangeSpec := { name := "vineAdds", fn := fun _ => fun
  | [d1, d2, d3, d4, d5] => { results := [.lit (.bool false)], args := [d1, d2, d3, d4, d5] }
  | _ => none }
def VineAddsWrongFalsely : Prop := vineAddsRow.holds Tryd.pinned (OpenSpec.ofChange vineAddsWrong)

/- THE SECOND FORM. 'bulk': how many values and letters a reading holds, each counted each time it is reached (what is shared counts as often as it is met; a slice's spare places count too). A statement '..UptoSaid' is the law's where the arguments, and the package variables that the reading takes, are together of bulk at most 1048576: NARROWER than '..Said'. Prove '..Said' where nothing that the law and all that it calls make is longer than what came in: it says more and counts as full. Else prove '..UptoSaid'. A law counts once. -/
mutual
def uptoBulk {H : Type} : DataW H → Nat
  | .lit (.string bytes) => bytes.length + 1
  | .lit _ => 1
  | .nil => 1
  | .ptr d => uptoBulk d + 1
  | .slice elems spare => uptoBulkAll elems + uptoBulkAll spare + 1
  | .agg parts => uptoBulkAll parts + 1
  | .iface _ d => uptoBulk d + 1
  | .map entries => uptoBulkEntries entries + 1
  | .held _ => 1
def uptoBulkAll {H : Type} : List (DataW H) → Nat
  | [] => 0
  | d :: r => uptoBulk d + uptoBulkAll r
def uptoBulkEntries {H : Type} : List (Lit × DataW H) → Nat
  | [] => 0
  | x :: r => uptoBulkEntry x + uptoBulkEntries r
def uptoBulkEntry {H : Type} : Lit × DataW H → Nat
  | (.string bytes, d) => bytes.length + uptoBulk d + 1
  | (_, d) => uptoBulk d + 1
 end
def uptoSmall : (H : Type) → List (DataW H) → Bool := fun _ ds => decide (uptoBulkAll ds ≤ 1048576)
def OpenSpec.upto (s : _root_.Go.ChangeSpec) : _root_.Go.OpenSpec := { _root_.Go.OpenSpec.ofChange s with cond := some uptoSmall }

/-- 'dibberlaw03.VineFactors', WHERE WHAT IT READS IS OF BULK AT MOST 1048576: true; the input reads as it did. -/
def vineFactorsUptoRow : OpenClaim := { program := "ytilacamhjibneaadoor", sum := "ef2e2cf1c7fd4567125585f9884baac362567b56bb992c876f67332d7d015b35", func := "dibber/dibberlaw03.VineFactors", spec := "vineFactors", inPlace := ["internal/abi.NoEscape", "internal/bytealg.MakeNoZero"], unfollowed := true, recurses := true, named := ["unicode/utf8.first", "unicode/utf8.acceptRanges"], apart := false, laid := [("unicode/utf8.acceptRanges", laid_unicode_utf8_acceptRanges), ("unicode/utf8.first", laid_unicode_utf8_first)], narrowed := true }
def VineFactorsUptoSaid : Prop := vineFactorsUptoRow.holds Tryd.pinned (OpenSpec.upto vineFactorsSpec)

/-- 'dibberlaw03.VineRecurs', WHERE WHAT IT READS IS OF BULK AT MOST 1048576: true; the input reads as it did. -/
def vineRecursUptoRow : OpenClaim := { program := "ytilacamhjibneaadoor", sum := "ef2e2cf1c7fd4567125585f9884baac362567b56bb992c876f67332d7d015b35", func := "dibber/dibberlaw03.VineRecurs", spec := "vineRecurs", inPlace := ["internal/abi.NoEscape", "internal/bytealg.MakeNoZero"], unfollowed := true, recurses := true, named := ["unicode/utf8.first", "unicode/utf8.acceptRanges"], apart := false, laid := [("unicode/utf8.acceptRanges", laid_unicode_utf8_acceptRanges), ("unicode/utf8.first", laid_unicode_utf8_first)], narrowed := true }
def VineRecursUptoSaid : Prop := vineRecursUptoRow.holds Tryd.pinned (OpenSpec.upto vineRecursSpec)

/-- 'dibberlaw03.VineKinds', WHERE WHAT IT READS IS OF BULK AT MOST 1048576: true; the input reads as it did. -/
def vineKindsUptoRow : OpenClaim := { program := "ytilacamhjibneaadoor", sum := "ef2e2cf1c7fd4567125585f9884baac362567b56bb992c876f67332d7d015b35", func := "dibber/dibberlaw03.VineKinds", spec := "vineKinds", inPlace := ["internal/abi.NoEscape", "internal/bytealg.MakeNoZero"], unfollowed := true, recurses := true, named := ["unicode/utf8.first", "unicode/utf8.acceptRanges"], apart := false, laid := [("unicode/utf8.acceptRanges", laid_unicode_utf8_acceptRanges), ("unicode/utf8.first", laid_unicode_utf8_first)], narrowed := true }
def VineKindsUptoSaid : Prop := vineKindsUptoRow.holds Tryd.pinned (OpenSpec.upto vineKindsSpec)

/-- 'dibberlaw03.VineEndless', WHERE WHAT IT READS IS OF BULK AT MOST 1048576: true; the input reads as it did. -/
def vineEndlessUptoRow : OpenClaim := { program := "ytilacamhjibneaadoor", sum := "ef2e2cf1c7fd4567125585f9884baac362567b56bb992c876f67332d7d015b35", func := "dibber/dibberlaw03.VineEndless", spec := "vineEndless", inPlace := ["internal/abi.NoEscape", "internal/bytealg.MakeNoZero"], unfollowed := true, recurses := true, named := ["unicode/utf8.first", "unicode/utf8.acceptRanges"], apart := false, laid := [("unicode/utf8.acceptRanges", laid_unicode_utf8_acceptRanges), ("unicode/utf8.first", laid_unicode_utf8_first)], narrowed := true }
def VineEndlessUptoSaid : Prop := vineEndlessUptoRow.holds Tryd.pinned (OpenSpec.upto vineEndlessSpec)

/-- 'dibberlaw03.VineGrows', WHERE WHAT IT READS IS OF BULK AT MOST 1048576: true; the input reads as it did. -/
def vineGrowsUptoRow : OpenClaim := { program := "ytilacamhjibneaadoor", sum := "ef2e2cf1c7fd4567125585f9884baac362567b56bb992c876f67332d7d015b35", func := "dibber/dibberlaw03.VineGrows", spec := "vineGrows", inPlace := ["internal/abi.NoEscape", "internal/bytealg.MakeNoZero"], unfollowed := true, recurses := true, named := ["unicode/utf8.first", "unicode/utf8.acceptRanges"], apart := false, laid := [("unicode/utf8.acceptRanges", laid_unicode_utf8_acceptRanges), ("unicode/utf8.first", laid_unicode_utf8_first)], narrowed := true }
def VineGrowsUptoSaid : Prop := vineGrowsUptoRow.holds Tryd.pinned (OpenSpec.upto vineGrowsSpec)

/-- 'dibberlaw03.VineSturm', WHERE WHAT IT READS IS OF BULK AT MOST 1048576: true; the input reads as it did. -/
def vineSturmUptoRow : OpenClaim := { program := "ytilacamhjibneaadoor", sum := "ef2e2cf1c7fd4567125585f9884baac362567b56bb992c876f67332d7d015b35", func := "dibber/dibberlaw03.VineSturm", spec := "vineSturm", inPlace := ["internal/abi.NoEscape", "internal/bytealg.MakeNoZero"], unfollowed := true, recurses := true, named := ["unicode/utf8.first", "unicode/utf8.acceptRanges"], apart := false, laid := [("unicode/utf8.acceptRanges", laid_unicode_utf8_acceptRanges), ("unicode/utf8.first", laid_unicode_utf8_first)], narrowed := true }
def VineSturmUptoSaid : Prop := vineSturmUptoRow.holds Tryd.pinned (OpenSpec.upto vineSturmSpec)

/-- 'dibberlaw03.VineRepeats', WHERE WHAT IT READS IS OF BULK AT MOST 1048576: true; the input reads as it did. -/
def vineRepeatsUptoRow : OpenClaim := { program := "ytilacamhjibneaadoor", sum := "ef2e2cf1c7fd4567125585f9884baac362567b56bb992c876f67332d7d015b35", func := "dibber/dibberlaw03.VineRepeats", spec := "vineRepeats", inPlace := ["internal/abi.NoEscape", "internal/bytealg.MakeNoZero"], unfollowed := true, recurses := true, named := ["unicode/utf8.first", "unicode/utf8.acceptRanges"], apart := false, laid := [("unicode/utf8.acceptRanges", laid_unicode_utf8_acceptRanges), ("unicode/utf8.first", laid_unicode_utf8_first)], narrowed := true }
def VineRepeatsUptoSaid : Prop := vineRepeatsUptoRow.holds Tryd.pinned (OpenSpec.upto vineRepeatsSpec)

/-- 'dibberlaw03.VineSame', WHERE WHAT IT READS IS OF BULK AT MOST 1048576: true; the input reads as it did. -/
def vineSameUptoRow : OpenClaim := { program := "ytilacamhjibneaadoor", sum := "ef2e2cf1c7fd4567125585f9884baac362567b56bb992c876f67332d7d015b35", func := "dibber/dibberlaw03.VineSame", spec := "vineSame", inPlace := ["internal/abi.NoEscape", "internal/bytealg.MakeNoZero"], unfollowed := true, recurses := true, named := ["unicode/utf8.first", "unicode/utf8.acceptRanges"], apart := false, laid := [("unicode/utf8.acceptRanges", laid_unicode_utf8_acceptRanges), ("unicode/utf8.first", laid_unicode_utf8_first)], narrowed := true }
def VineSameUptoSaid : Prop := vineSameUptoRow.holds Tryd.pinned (OpenSpec.upto vineSameSpec)

/-- 'dibberlaw03.VineAt', WHERE WHAT IT READS IS OF BULK AT MOST 1048576: true; the input reads as it did. -/
def vineAtUptoRow : OpenClaim := { program := "ytilacamhjibneaadoor", sum := "ef2e2cf1c7fd4567125585f9884baac362567b56bb992c876f67332d7d015b35", func := "dibber/dibberlaw03.VineAt", spec := "vineAt", inPlace := ["internal/abi.NoEscape", "internal/bytealg.MakeNoZero"], unfollowed := true, recurses := true, named := ["unicode/utf8.first", "unicode/utf8.acceptRanges"], apart := false, laid := [("unicode/utf8.acceptRanges", laid_unicode_utf8_acceptRanges), ("unicode/utf8.first", laid_unicode_utf8_first)], narrowed := true }
def VineAtUptoSaid : Prop := vineAtUptoRow.holds Tryd.pinned (OpenSpec.upto vineAtSpec)

/-- 'dibberlaw03.VineOrders', WHERE WHAT IT READS IS OF BULK AT MOST 1048576: true; the input reads as it did. -/
def vineOrdersUptoRow : OpenClaim := { program := "ytilacamhjibneaadoor", sum := "ef2e2cf1c7fd4567125585f9884baac362567b56bb992c876f67332d7d015b35", func := "dibber/dibberlaw03.VineOrders", spec := "vineOrders", inPlace := ["internal/abi.NoEscape", "internal/bytealg.MakeNoZero"], unfollowed := true, recurses := true, named := ["unicode/utf8.first", "unicode/utf8.acceptRanges"], apart := false, laid := [("unicode/utf8.acceptRanges", laid_unicode_utf8_acceptRanges), ("unicode/utf8.first", laid_unicode_utf8_first)], narrowed := true }
def VineOrdersUptoSaid : Prop := vineOrdersUptoRow.holds Tryd.pinned (OpenSpec.upto vineOrdersSpec)

/-- 'dibberlaw03.VineBuds', WHERE WHAT IT READS IS OF BULK AT MOST 1048576: true; the input reads as it did. -/
def vineBudsUptoRow : OpenClaim := { program := "ytilacamhjibneaadoor", sum := "ef2e2cf1c7fd4567125585f9884baac362567b56bb992c876f67332d7d015b35", func := "dibber/dibberlaw03.VineBuds", spec := "vineBuds", inPlace := ["internal/abi.NoEscape", "internal/bytealg.MakeNoZero"], unfollowed := true, recurses := true, named := ["unicode/utf8.first", "unicode/utf8.acceptRanges"], apart := false, laid := [("unicode/utf8.acceptRanges", laid_unicode_utf8_acceptRanges), ("unicode/utf8.first", laid_unicode_utf8_first)], narrowed := true }
def VineBudsUptoSaid : Prop := vineBudsUptoRow.holds Tryd.pinned (OpenSpec.upto vineBudsSpec)

/-- 'dibberlaw03.VineAdds', WHERE WHAT IT READS IS OF BULK AT MOST 1048576: true; the input reads as it did. -/
def vineAddsUptoRow : OpenClaim := { program := "ytilacamhjibneaadoor", sum := "ef2e2cf1c7fd4567125585f9884baac362567b56bb992c876f67332d7d015b35", func := "dibber/dibberlaw03.VineAdds", spec := "vineAdds", inPlace := ["internal/abi.NoEscape", "internal/bytealg.MakeNoZero"], unfollowed := true, recurses := true, named := ["unicode/utf8.first", "unicode/utf8.acceptRanges"], apart := false, laid := [("unicode/utf8.acceptRanges", laid_unicode_utf8_acceptRanges), ("unicode/utf8.first", laid_unicode_utf8_first)], narrowed := true }
def VineAddsUptoSaid : Prop := vineAddsUptoRow.holds Tryd.pinned (OpenSpec.upto vineAddsSpec)

end Rows
end Go.Proofs.YtilacamhjibneaaDoor
