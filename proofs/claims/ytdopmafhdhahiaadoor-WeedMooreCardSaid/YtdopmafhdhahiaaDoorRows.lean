/-
  NARROWER THAN 'FOR EVERY INPUT', by the rows' own cells (each row's printed sentence says how): WeedOrphans: laid · WeedMirrors: laid · WeedMoore: laid.
  DERIVED. THE GIVEN ROWS OF THIS SEAT. 3 by the template 'for every input the law returns true; each argument reads behind the call as it read before'; 0 by the template 'total and deterministic' (their statements: YtdopmafhdhahiaaDoorTotals.lean).
  GIVEN WITH THE SEED: the statements are not yours to turn. If you find one false, say at which input.
  Laid BY PROGRAM, IN A SANDBOX (cutbox-rows.mjs): the forced cells as the released guide's own fill.sh prints them over the translation a82a22c2b849768a… (all of the seat's roots in one cut). By AI agents, Wed Nov 11 2026. No macro, syntax, notation, axiom, sorry.
-/
import Derived.Test.YtdopmafhdhahiaaDoorChecked
import GoSem.PinnedTables
import GoSem.Claim
import GoSem.ClaimJoined
import GoSem.ClaimMapViews
import Derived.JoinedTies
import Derived.KernelRfl
namespace Go.Proofs.YtdopmafhdhahiaaDoor
/- THE CELL 'sum', in the pinned program and in every row, IS THE sha256 OF THE DUMP (.gsa) THAT YtdopmafhdhahiaaDoorProg.lean LOADS. Nothing in Lean hashes anything: it is a label: what it is worth is what the hold of that sum in a sandbox is worth. -/
noncomputable def Tryd.pinned : Pinned := { name := "ytdopmafhdhahiaadoor", sum := "a82a22c2b849768a7698ed7cc43e246221d7bb5067f213e85139908a2fa1ee8f", checked := Tryd.checked }
namespace Rows
def none {H : Type} : Left H := { results := [], args := [] }

/- WHAT THE LISTED PACKAGE-LEVEL VARIABLES READ AS WHEN THE CALL BEGINS. Each datum BY PROGRAM (the guide's laid-datum.mjs) off the statement by which the dump's own 'gosem.cut.vars' lays the variable. In a bare row this is a premise. The card (YtdopmafhdhahiaaDoorCards.lean) ties it to the program's text. -/
def laid_unicode_utf8_acceptRanges {H : Type} : DataW H := .agg [.agg [.lit (.int .u8 128), .lit (.int .u8 191)], .agg [.lit (.int .u8 160), .lit (.int .u8 191)], .agg [.lit (.int .u8 128), .lit (.int .u8 159)], .agg [.lit (.int .u8 144), .lit (.int .u8 191)], .agg [.lit (.int .u8 128), .lit (.int .u8 143)], .agg [.lit (.int .u8 0), .lit (.int .u8 0)], .agg [.lit (.int .u8 0), .lit (.int .u8 0)], .agg [.lit (.int .u8 0), .lit (.int .u8 0)], .agg [.lit (.int .u8 0), .lit (.int .u8 0)], .agg [.lit (.int .u8 0), .lit (.int .u8 0)], .agg [.lit (.int .u8 0), .lit (.int .u8 0)], .agg [.lit (.int .u8 0), .lit (.int .u8 0)], .agg [.lit (.int .u8 0), .lit (.int .u8 0)], .agg [.lit (.int .u8 0), .lit (.int .u8 0)], .agg [.lit (.int .u8 0), .lit (.int .u8 0)], .agg [.lit (.int .u8 0), .lit (.int .u8 0)]]
def laid_dibber_weed_kinds {H : Type} : DataW H := .iface "func table" (.agg [.iface "func" (.lit (.string [40, 100, 105, 98, 98, 101, 114, 47, 119, 101, 101, 100, 46, 114, 117, 108, 101, 41, 46, 109, 105, 114, 114, 111, 114, 101, 100])), .iface "func" (.lit (.string [40, 100, 105, 98, 98, 101, 114, 47, 119, 101, 101, 100, 46, 114, 117, 108, 101, 41, 46, 111, 112, 112, 111, 115, 105, 116, 101]))])
/-- One of Go's own tables, pinned by name: the form's constant. -/
def laid_unicode_utf8_first : DataW Unit := Go.Pinned.utf8First

/-- 'dibberlaw02.WeedOrphans': WHATEVER THE INPUT: true; the input reads as it did. -/
def weedOrphansSpec : ChangeSpec := { name := "weedOrphans", fn := fun _ => fun
  | [d1, d2] => { results := [.lit (.bool true)], args := [d1, d2] }
  | _ => none }
def weedOrphansRow : OpenClaim := { program := "ytdopmafhdhahiaadoor", sum := "a82a22c2b849768a7698ed7cc43e246221d7bb5067f213e85139908a2fa1ee8f", func := "dibber/dibberlaw02.WeedOrphans", spec := "weedOrphans", inPlace := ["internal/abi.NoEscape", "internal/bytealg.IndexByteString", "internal/bytealg.IndexString"], unfollowed := true, recurses := true, named := ["unicode/utf8.first", "unicode/utf8.acceptRanges", "dibber/weed.kinds", "internal/bytealg.MaxLen"], plainKeys := false, apart := false, laid := [("unicode/utf8.acceptRanges", laid_unicode_utf8_acceptRanges), ("dibber/weed.kinds", laid_dibber_weed_kinds), ("unicode/utf8.first", laid_unicode_utf8_first)] }
def WeedOrphansSaid : Prop := weedOrphansRow.holds Tryd.pinned (OpenSpec.ofChange weedOrphansSpec)

/-- ITS FALSE NEIGHBOUR: 'it returns false'. Refute it at one input. -/
def weedOrphansWrong : ChangeSpec := { name := "weedOrphans", fn := fun _ => fun
  | [d1, d2] => { results := [.lit (.bool false)], args := [d1, d2] }
  | _ => none }
def WeedOrphansWrongFalsely : Prop := weedOrphansRow.holds Tryd.pinned (OpenSpec.ofChange weedOrphansWrong)

/-- 'dibberlaw02.WeedMirrors': WHATEVER THE INPUT: true; the input reads as it did. -/
def weedMirrorsSpec : ChangeSpec := { name := "weedMirrors", fn := fun _ => fun
  | [d] => { results := [.lit (.bool true)], args := [d] }
  | _ => none }
def weedMirrorsRow : OpenClaim := { program := "ytdopmafhdhahiaadoor", sum := "a82a22c2b849768a7698ed7cc43e246221d7bb5067f213e85139908a2fa1ee8f", func := "dibber/dibberlaw02.WeedMirrors", spec := "weedMirrors", inPlace := ["internal/bytealg.IndexByteString", "internal/bytealg.IndexString", "internal/abi.NoEscape"], unfollowed := true, recurses := true, named := ["dibber/weed.kinds", "unicode/utf8.first", "unicode/utf8.acceptRanges", "internal/bytealg.MaxLen"], plainKeys := false, apart := false, laid := [("unicode/utf8.acceptRanges", laid_unicode_utf8_acceptRanges), ("dibber/weed.kinds", laid_dibber_weed_kinds), ("unicode/utf8.first", laid_unicode_utf8_first)] }
def WeedMirrorsSaid : Prop := weedMirrorsRow.holds Tryd.pinned (OpenSpec.ofChange weedMirrorsSpec)

/-- ITS FALSE NEIGHBOUR: 'it returns false'. Refute it at one input. -/
def weedMirrorsWrong : ChangeSpec := { name := "weedMirrors", fn := fun _ => fun
  | [d] => { results := [.lit (.bool false)], args := [d] }
  | _ => none }
def WeedMirrorsWrongFalsely : Prop := weedMirrorsRow.holds Tryd.pinned (OpenSpec.ofChange weedMirrorsWrong)

/-- 'dibberlaw02.WeedMoore': WHATEVER THE INPUT: true; the input reads as it did. -/
def weedMooreSpec : ChangeSpec := { name := "weedMoore", fn := fun _ => fun
  | [d] => { results := [.lit (.bool true)], args := [d] }
  | _ => none }
def weedMooreRow : OpenClaim := { program := "ytdopmafhdhahiaadoor", sum := "a82a22c2b849768a7698ed7cc43e246221d7bb5067f213e85139908a2fa1ee8f", func := "dibber/dibberlaw02.WeedMoore", spec := "weedMoore", inPlace := ["internal/abi.NoEscape", "internal/bytealg.IndexByteString", "internal/bytealg.IndexString"], unfollowed := true, recurses := true, named := ["unicode/utf8.first", "unicode/utf8.acceptRanges", "dibber/weed.kinds", "internal/bytealg.MaxLen"], plainKeys := false, apart := false, laid := [("unicode/utf8.acceptRanges", laid_unicode_utf8_acceptRanges), ("dibber/weed.kinds", laid_dibber_weed_kinds), ("unicode/utf8.first", laid_unicode_utf8_first)] }
def WeedMooreSaid : Prop := weedMooreRow.holds Tryd.pinned (OpenSpec.ofChange weedMooreSpec)

/-- ITS FALSE NEIGHBOUR: 'it returns false'. Refute it at one input. -/
def weedMooreWrong : ChangeSpec := { name := "weedMoore", fn := fun _ => fun
  | [d] => { results := [.lit (.bool false)], args := [d] }
  | _ => none }
def WeedMooreWrongFalsely : Prop := weedMooreRow.holds Tryd.pinned (OpenSpec.ofChange weedMooreWrong)

/- THE SECOND FORM. 'bulk': how many values and letters a reading holds, each counted each time it is reached (what is shared counts as often as it is met; a slice's spare places count too). A statement '..UptoSaid' is the law's where the arguments, and the package variables that the reading takes, are together of bulk at most 1048576: NARROWER than '..Said'. Prove '..Said' where nothing that the law and all that it calls make is longer than what came in: it says more and counts as full. Else prove '..UptoSaid'. A law counts once. -/
mutual
def uptoBulk {H : Type} : DataW H → Nat
  | .lit (.string bytes) => bytes.length + 1
  | .lit _ => 1
  | .nil => 1
  | .ptr d => uptoBulk d + 1
  | .slice elems spare => uptoBulkAll elems + uptoBulkAll spare + 1
  | .agg parts => uptoBulkAll parts + 1
  | .iface _ d => uptoBulk d + 1
  | .map entries => uptoBulkEntries entries + 1
  | .held _ => 1
def uptoBulkAll {H : Type} : List (DataW H) → Nat
  | [] => 0
  | d :: r => uptoBulk d + uptoBulkAll r
def uptoBulkEntries {H : Type} : List (Lit × DataW H) → Nat
  | [] => 0
  | x :: r => uptoBulkEntry x + uptoBulkEntries r
def uptoBulkEntry {H : Type} : Lit × DataW H → Nat
  | (.string bytes, d) => bytes.length + uptoBulk d + 1
  | (_, d) => uptoBulk d + 1
 end
def uptoSmall : (H : Type) → List (DataW H) → Bool := fun _ ds => decide (uptoBulkAll ds ≤ 1048576)
def OpenSpec.upto (s : _root_.Go.ChangeSpec) : _root_.Go.OpenSpec := { _root_.Go.OpenSpec.ofChange s with cond := some uptoSmall }

/-- 'dibberlaw02.WeedOrphans', WHERE WHAT IT READS IS OF BULK AT MOST 1048576: true; the input reads as it did. -/
def weedOrphansUptoRow : OpenClaim := { program := "ytdopmafhdhahiaadoor", sum := "a82a22c2b849768a7698ed7cc43e246221d7bb5067f213e85139908a2fa1ee8f", func := "dibber/dibberlaw02.WeedOrphans", spec := "weedOrphans", inPlace := ["internal/abi.NoEscape", "internal/bytealg.IndexByteString", "internal/bytealg.IndexString"], unfollowed := true, recurses := true, named := ["unicode/utf8.first", "unicode/utf8.acceptRanges", "dibber/weed.kinds", "internal/bytealg.MaxLen"], plainKeys := false, apart := false, laid := [("unicode/utf8.acceptRanges", laid_unicode_utf8_acceptRanges), ("dibber/weed.kinds", laid_dibber_weed_kinds), ("unicode/utf8.first", laid_unicode_utf8_first)], narrowed := true }
def WeedOrphansUptoSaid : Prop := weedOrphansUptoRow.holds Tryd.pinned (OpenSpec.upto weedOrphansSpec)

/-- 'dibberlaw02.WeedMirrors', WHERE WHAT IT READS IS OF BULK AT MOST 1048576: true; the input reads as it did. -/
def weedMirrorsUptoRow : OpenClaim := { program := "ytdopmafhdhahiaadoor", sum := "a82a22c2b849768a7698ed7cc43e246221d7bb5067f213e85139908a2fa1ee8f", func := "dibber/dibberlaw02.WeedMirrors", spec := "weedMirrors", inPlace := ["internal/bytealg.IndexByteString", "internal/bytealg.IndexString", "internal/abi.NoEscape"], unfollowed := true, recurses := true, named := ["dibber/weed.kinds", "unicode/utf8.first", "unicode/utf8.acceptRanges", "internal/bytealg.MaxLen"], plainKeys := false, apart := false, laid := [("unicode/utf8.acceptRanges", laid_unicode_utf8_acceptRanges), ("dibber/weed.kinds", laid_dibber_weed_kinds), ("unicode/utf8.first", laid_unicode_utf8_first)], narrowed := true }
def WeedMirrorsUptoSaid : Prop := weedMirrorsUptoRow.holds Tryd.pinned (OpenSpec.upto weedMirrorsSpec)

/-- 'dibberlaw02.WeedMoore', WHERE WHAT IT READS IS OF BULK AT MOST 1048576: true; the input reads as it did. -/
def weedMooreUptoRow : OpenClaim := { program := "ytdopmafhdhahiaadoor", sum := "a82a22c2b849768a7698ed7cc43e246221d7bb5067f213e85139908a2fa1ee8f", func := "dibber/dibberlaw02.WeedMoore", spec := "weedMoore", inPlace := ["internal/abi.NoEscape", "internal/bytealg.IndexByteString", "internal/bytealg.IndexString"], unfollowed := true, recurses := true, named := ["unicode/utf8.first", "unicode/utf8.acceptRanges", "dibber/weed.kinds", "internal/bytealg.MaxLen"], plainKeys := false, apart := false, laid := [("unicode/utf8.acceptRanges", laid_unicode_utf8_acceptRanges), ("dibber/weed.kinds", laid_dibber_weed_kinds), ("unicode/utf8.first", laid_unicode_utf8_first)], narrowed := true }
def WeedMooreUptoSaid : Prop := weedMooreUptoRow.holds Tryd.pinned (OpenSpec.upto weedMooreSpec)

end Rows
end Go.Proofs.YtdopmafhdhahiaaDoor
