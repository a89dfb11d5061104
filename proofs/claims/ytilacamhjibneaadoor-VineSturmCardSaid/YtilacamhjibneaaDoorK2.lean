/- Texts on the vines, laid together (Shelf, V8, V9, V10, V11, V12, V13, V14, VQ, V15, V16, V17, V18, V19). Their conditions are their premises. -/
import Derived.Shelf.Strings.Builder1
import Derived.Shelf.Strings.Builder2
import Derived.Shelf.Small.Utf8
import Derived.Shelf.Strings.BuilderF
import Derived.Shelf.Strings.BuilderK
import Derived.Shelf.Strings.BuilderRune
import Derived.Shelf.Utf8.AppendRunePlain
import Derived.Shelf.Strings.Builder2Cap
import Derived.Shelf.Unicode.Decode
import Derived.Shelf.Unicode.DecodeSlow
import Derived.Shelf.Unicode.DecodeAny
import Derived.Shelf.Strings.MapAny
import Derived.Shelf.Strings.BuilderCap
import Derived.Shelf.Strings.MapGrows
import Derived.Test.YtilacamhjibneaaDoorProg
import Derived.Test.YtilacamhjibneaaDoorK1
import Derived.RangeFuncNested
import Derived.RangeFuncBound
import Derived.RangeFuncCalls
import Derived.RangeFuncLeaves
import Derived.Shelf.Abstract
import Derived.Shelf.RegionOpen
import Derived.OwnWalkIn
import Derived.TacticsInMore
import Derived.LoopNIn
import Derived.LoopIn
import Derived.Sort.QuietIn
import Derived.Lib.FrozenHead
import Derived.Lib.OthersKept
import Derived.Laws.IdiomCopy
import Derived.Deep.RegionLaw
import Derived.Deep.MidRow
import Derived.Deep.RegionHeld3
import Derived.Laws.IdiomStrings
set_option linter.unusedVariables false
/-
  DERIVED: THE SHELF's CONTRACTS AT THIS DUMP, IN PLAIN WORDS (tools/lay-plain.mjs out of 'YtilacamhjibneaaDoorShelf.lean', which tools/lay-shelf.mjs wrote): THE SAME DECLARATIONS UNDER THE SAME NAMES: 'import', 'namespace', 'open', 'def', 'theorem' AND NOTHING ELSE: no command of the shelf's: FOR A HAND-IN. Each laying: the table of numbers ('.._ren') and one theorem, a field a fact of the dump's own or the kernel's comparison; each contract: ONE APPLICATION.
-/
namespace Go.Proofs
open Go.Shelf
def Tryd.lays169_ren : Go.Shelf.Ren := ⟨fun | 169 => 96 | n => n, fun | 70 => 104 | 9 => 9 | 0 => 0 | 72 => 106 | 37 => 52 | 127 => 123 | 3 => 3 | 5 => 5 | n => n, fun | n => n⟩
theorem Tryd.lays169 : Go.Proofs.Lays.n169 Tryd.prog Tryd.lays169_ren := {
  mixed := by kernel_rfl
  f169 := Tryd.func96.trans (congrArg some (by kernel_rfl))
  t0 := Tryd.underlying0
  a0 := Tryd.isAgg0
  z0 := Tryd.sizeOf0
  v0 := Tryd.zeroValue0
  t3 := Tryd.underlying3
  a3 := Tryd.isAgg3
  z3 := Tryd.sizeOf3
  v3 := Tryd.zeroValue3
  t9 := Tryd.underlying9
  a9 := Tryd.isAgg9
  z9 := Tryd.sizeOf9
  v9 := Tryd.zeroValue9
  t37 := Tryd.underlying52
  a37 := Tryd.isAgg52
  z37 := Tryd.sizeOf52
  v37 := Tryd.zeroValue52
  t70 := Tryd.underlying104
  a70 := Tryd.isAgg104
  z70 := Tryd.sizeOf104
  v70 := Tryd.zeroValue104
  t72 := Tryd.underlying106
  a72 := Tryd.isAgg106
  z72 := Tryd.sizeOf106
  v72 := Tryd.zeroValue106
  t127 := Tryd.underlying123
  a127 := Tryd.isAgg123
  z127 := Tryd.sizeOf123
  v127 := Tryd.zeroValue123 }
theorem Tryd.Builder_Extra_169 : Builder.Extra Tryd.prog Tryd.lays169_ren := {
  sizeBuilder := by kernel_rfl
  liesBuilder := by kernel_rfl
  t5 := Tryd.underlying5
  a5 := Tryd.isAgg5
  z5 := Tryd.sizeOf5
  v5 := Tryd.zeroValue5
  infoByte := by kernel_rfl
  cellsByte := by kernel_rfl
  sizeByte := by kernel_rfl
  neB5 := by decide }
open Go.RowKit in
/-- (*strings.Builder).String: "String returns the accumulated string.": OF A BUILDER THAT HOLDS AT LEAST ONE BYTE. ✋ THE MODEL FREEZES THOSE BYTES IN THE BUFFER (unsafe.String): a later write INTO them ends the model's run without an answer; a later append BEHIND them goes on. The statement's order of evaluation is drawn: one draw. (LAID: no walk: one application.) -/
theorem Tryd.Builder_String (B b : Nat) (l : List UInt8) (w : World) (h : Lib.IsBuilder 106 5 B b (Lib.byteCells l) w) (h0 : l ≠ []) :
    Calls Tryd.prog 96 #[.pointer (some ⟨b, 0, none⟩)] w fun e w' => e = .returned (.string ⟨l.toArray⟩) ∧ Below B w w' := Any.Builder_String Tryd.lays169 Tryd.Builder_Extra_169 B b l w h h0
open Go.RowKit in
/-- (*strings.Builder).String OF A BUILDER THAT HOLDS NO BYTE: the empty string. (Its buffer is nil, or a row of which it has taken nothing yet; where that row has NO capacity the model lays one new block for unsafe.SliceData's 'some address'.) One draw. (LAID: no walk: one application.) -/
theorem Tryd.Builder_String_empty (B b : Nat) (w : World) (h : Lib.IsBuilder 106 5 B b [] w) (hBw : B ≤ w.heap.size) :
    Calls Tryd.prog 96 #[.pointer (some ⟨b, 0, none⟩)] w fun e w' => e = .returned (.string ⟨#[]⟩) ∧ Below B w w' := Any.Builder_String_empty Tryd.lays169 Tryd.Builder_Extra_169 B b w h hBw
open Go.RowKit in
/-- (*strings.Builder).String: "String returns the accumulated string.": WHATEVER THE BUILDER HOLDS. (LAID: no walk: one application.) -/
theorem Tryd.Builder_String_any (B b : Nat) (l : List UInt8) (w : World) (h : Lib.IsBuilder 106 5 B b (Lib.byteCells l) w) (hBw : B ≤ w.heap.size) :
    Calls Tryd.prog 96 #[.pointer (some ⟨b, 0, none⟩)] w fun e w' => e = .returned (.string ⟨l.toArray⟩) ∧ Below B w w' := Any.Builder_String_any Tryd.lays169 Tryd.Builder_Extra_169 B b l w h hBw
def Tryd.lays241_ren : Go.Shelf.Ren := ⟨fun | 241 => 102 | 277 => 106 | n => n, fun | 70 => 104 | 3 => 3 | 0 => 0 | 72 => 106 | 37 => 52 | 5 => 5 | n => n, fun | n => n⟩
theorem Tryd.lays241 : Go.Proofs.Lays.n241 Tryd.prog Tryd.lays241_ren := {
  mixed := by kernel_rfl
  f241 := Tryd.func102.trans (congrArg some (by kernel_rfl))
  f277 := Tryd.func106.trans (congrArg some (by kernel_rfl))
  t0 := Tryd.underlying0
  a0 := Tryd.isAgg0
  z0 := Tryd.sizeOf0
  v0 := Tryd.zeroValue0
  t3 := Tryd.underlying3
  a3 := Tryd.isAgg3
  z3 := Tryd.sizeOf3
  v3 := Tryd.zeroValue3
  t37 := Tryd.underlying52
  a37 := Tryd.isAgg52
  z37 := Tryd.sizeOf52
  v37 := Tryd.zeroValue52
  t70 := Tryd.underlying104
  a70 := Tryd.isAgg104
  z70 := Tryd.sizeOf104
  v70 := Tryd.zeroValue104
  t72 := Tryd.underlying106
  a72 := Tryd.isAgg106
  z72 := Tryd.sizeOf106
  v72 := Tryd.zeroValue106 }
theorem Tryd.Builder_Extra_241 : Builder.Extra Tryd.prog Tryd.lays241_ren := {
  sizeBuilder := by kernel_rfl
  liesBuilder := by kernel_rfl
  t5 := Tryd.underlying5
  a5 := Tryd.isAgg5
  z5 := Tryd.sizeOf5
  v5 := Tryd.zeroValue5
  infoByte := by kernel_rfl
  cellsByte := by kernel_rfl
  sizeByte := by kernel_rfl
  neB5 := by decide }
open Go.RowKit in
/-- (*strings.Builder).grow (no doc but "grow copies the buffer to a new, larger buffer so that there are at least n bytes of capacity beyond len(b.buf)."): AT A BUILDER WITHOUT A BUFFER: a new row of whatever bytes for its buffer, none of them its own yet. Three draws. (LAID: no walk: one application.) -/
theorem Tryd.Builder_grow_fresh (B b n : Nat) (w : World) (hB : B ≤ b) (hbk : w.heap[b]? = some (.cells #[.pointer (some ⟨b, 0, none⟩), .slice none 0 0] 106 (0, 0))) (hBw : B ≤ w.heap.size) (hn : n ≤ 281474976710656) :
    Calls Tryd.prog 102 #[.pointer (some ⟨b, 0, none⟩), .int .i64 n] w fun e w' => e = .returned (.tuple #[]) ∧ (Lib.BuilderAt 106 5 B b (.pointer (some ⟨b, 0, none⟩)) [] w' ∧ Below B w w') := Any.Builder_grow_fresh Tryd.lays241 Tryd.Builder_Extra_241 B b n w hB hbk hBw hn
def Tryd.lays165_ren : Go.Shelf.Ren := ⟨fun | 165 => 91 | 240 => 101 | 241 => 102 | 276 => 105 | 277 => 106 | n => n, fun | 70 => 104 | 3 => 3 | 0 => 0 | 4 => 4 | 9 => 9 | 20 => 20 | 72 => 106 | 37 => 52 | 164 => 129 | 5 => 5 | n => n, fun | n => n⟩
theorem Tryd.lays165 : Go.Proofs.Lays.n165 Tryd.prog Tryd.lays165_ren := {
  mixed := by kernel_rfl
  f165 := Tryd.func91.trans (congrArg some (by kernel_rfl))
  f240 := Tryd.func101.trans (congrArg some (by kernel_rfl))
  f241 := Tryd.func102.trans (congrArg some (by kernel_rfl))
  f276 := Tryd.func105.trans (congrArg some (by kernel_rfl))
  f277 := Tryd.func106.trans (congrArg some (by kernel_rfl))
  t0 := Tryd.underlying0
  a0 := Tryd.isAgg0
  z0 := Tryd.sizeOf0
  v0 := Tryd.zeroValue0
  t3 := Tryd.underlying3
  a3 := Tryd.isAgg3
  z3 := Tryd.sizeOf3
  v3 := Tryd.zeroValue3
  t4 := Tryd.underlying4
  a4 := Tryd.isAgg4
  z4 := Tryd.sizeOf4
  v4 := Tryd.zeroValue4
  t9 := Tryd.underlying9
  a9 := Tryd.isAgg9
  z9 := Tryd.sizeOf9
  v9 := Tryd.zeroValue9
  t20 := Tryd.underlying20
  a20 := Tryd.isAgg20
  z20 := Tryd.sizeOf20
  v20 := Tryd.zeroValue20
  t37 := Tryd.underlying52
  a37 := Tryd.isAgg52
  z37 := Tryd.sizeOf52
  v37 := Tryd.zeroValue52
  t70 := Tryd.underlying104
  a70 := Tryd.isAgg104
  z70 := Tryd.sizeOf104
  v70 := Tryd.zeroValue104
  t72 := Tryd.underlying106
  a72 := Tryd.isAgg106
  z72 := Tryd.sizeOf106
  v72 := Tryd.zeroValue106
  t164 := Tryd.underlying129
  a164 := Tryd.isAgg129
  z164 := Tryd.sizeOf129
  v164 := Tryd.zeroValue129 }
theorem Tryd.Builder_Extra_165 : Builder.Extra Tryd.prog Tryd.lays165_ren := {
  sizeBuilder := by kernel_rfl
  liesBuilder := by kernel_rfl
  t5 := Tryd.underlying5
  a5 := Tryd.isAgg5
  z5 := Tryd.sizeOf5
  v5 := Tryd.zeroValue5
  infoByte := by kernel_rfl
  cellsByte := by kernel_rfl
  sizeByte := by kernel_rfl
  neB5 := by decide }
open Go.RowKit in
/-- (*strings.Builder).Grow AT A BUILDER THAT HAS NOT BEEN WRITTEN ('var b strings.Builder; b.Grow(n)'): "Grow grows b's capacity, if necessary, to guarantee space for another n bytes.": it holds no byte behind it as before it. (LAID: no walk: one application.) -/
theorem Tryd.Builder_Grow_fresh (B b n : Nat) (w : World) (hB : B ≤ b) (hbk : w.heap[b]? = some (.cells #[.pointer none, .slice none 0 0] 106 (0, 0))) (hBw : B ≤ w.heap.size) (hn : n ≤ 281474976710656) :
    Calls Tryd.prog 91 #[.pointer (some ⟨b, 0, none⟩), .int .i64 n] w fun e w' => e = .returned (.tuple #[]) ∧ (Lib.BuilderAt 106 5 B b (.pointer (some ⟨b, 0, none⟩)) [] w' ∧ Below B w w') := Any.Builder_Grow_fresh Tryd.lays165 Tryd.Builder_Extra_165 B b n w hB hbk hBw hn
def Tryd.lays118_ren : Go.Shelf.Ren := ⟨fun | 118 => 90 | n => n, fun | 21 => 21 | 3 => 3 | 4 => 4 | n => n, fun | n => n⟩
theorem Tryd.lays118 : Go.Proofs.Lays.n118 Tryd.prog Tryd.lays118_ren := {
  mixed := by kernel_rfl
  f118 := Tryd.func90.trans (congrArg some (by kernel_rfl))
  t3 := Tryd.underlying3
  a3 := Tryd.isAgg3
  z3 := Tryd.sizeOf3
  v3 := Tryd.zeroValue3
  t4 := Tryd.underlying4
  a4 := Tryd.isAgg4
  z4 := Tryd.sizeOf4
  v4 := Tryd.zeroValue4
  t21 := Tryd.underlying21
  a21 := Tryd.isAgg21
  z21 := Tryd.sizeOf21
  v21 := Tryd.zeroValue21 }
/-- utf8.RuneLen: "RuneLen returns the number of bytes in the UTF-8 encoding of the rune. It returns -1 if the rune is not a valid value to encode in UTF-8.": IT RETURNS 'Lib.runeLen r'; the world is as it was. (LAID: no walk: one application.) -/
theorem Tryd.utf8_RuneLen (r : Int) (w : World) :
    Calls Tryd.prog 90 #[.int .i32 r] w fun e w' => e = .returned (.int .i64 (Lib.runeLen r)) ∧ w' = w := Any.utf8_RuneLen Tryd.lays118 r w
open Go.RowKit in
/-- (*strings.Builder).String: "String returns the accumulated string.": OF A BUILDER THAT HOLDS AT LEAST ONE BYTE. ✋ THE MODEL FREEZES THOSE BYTES IN THE BUFFER (unsafe.String): a later write INTO them ends the model's run without an answer; a later append BEHIND them goes on. The statement's order of evaluation is drawn: one draw. THE FORM '_f': IT SAYS BESIDES THAT THE BUILDER IS A BUILDER STILL ('Lib.IsBuilderF', the same bytes): SO IT CAN BE WRITTEN ON: 'b.WriteString(b.String()[:k])'. (LAID: no walk: one application.) -/
theorem Tryd.Builder_String_f (B b : Nat) (l : List UInt8) (w : World) (h : Lib.IsBuilderF 106 5 B b (Lib.byteCells l) w) (h0 : l ≠ []) :
    Calls Tryd.prog 96 #[.pointer (some ⟨b, 0, none⟩)] w fun e w' => e = .returned (.string ⟨l.toArray⟩) ∧ (Lib.IsBuilderF 106 5 B b (Lib.byteCells l) w' ∧ Below B w w') := Any.Builder_String_f Tryd.lays169 Tryd.Builder_Extra_169 B b l w h h0
open Go.RowKit in
/-- (*strings.Builder).String OF A BUILDER THAT HOLDS NO BYTE: the empty string; THE FORM '_f': a builder still. (LAID: no walk: one application.) -/
theorem Tryd.Builder_String_empty_f (B b : Nat) (w : World) (h : Lib.IsBuilderF 106 5 B b [] w) (hBw : B ≤ w.heap.size) :
    Calls Tryd.prog 96 #[.pointer (some ⟨b, 0, none⟩)] w fun e w' => e = .returned (.string ⟨#[]⟩) ∧ (Lib.IsBuilderF 106 5 B b [] w' ∧ Below B w w') := Any.Builder_String_empty_f Tryd.lays169 Tryd.Builder_Extra_169 B b w h hBw
open Go.RowKit in
/-- (*strings.Builder).String: "String returns the accumulated string.": WHATEVER THE BUILDER HOLDS; THE FORM '_f': OF A BUILDER THAT MAY HAVE BEEN READ BEFORE; AND IT IS A BUILDER STILL, holding the same bytes: it can be written on. (LAID: no walk: one application.) -/
theorem Tryd.Builder_String_any_f (B b : Nat) (l : List UInt8) (w : World) (h : Lib.IsBuilderF 106 5 B b (Lib.byteCells l) w) (hBw : B ≤ w.heap.size) :
    Calls Tryd.prog 96 #[.pointer (some ⟨b, 0, none⟩)] w fun e w' => e = .returned (.string ⟨l.toArray⟩) ∧ (Lib.IsBuilderF 106 5 B b (Lib.byteCells l) w' ∧ Below B w w') := Any.Builder_String_any_f Tryd.lays169 Tryd.Builder_Extra_169 B b l w h hBw
open Go.RowKit in
/-- (*strings.Builder).String: "String returns the accumulated string.": OF A BUILDER THAT HOLDS AT LEAST ONE BYTE. ✋ THE MODEL FREEZES THOSE BYTES IN THE BUFFER (unsafe.String): a later write INTO them ends the model's run without an answer; a later append BEHIND them goes on. The statement's order of evaluation is drawn: one draw. THE FORM '_k': OVER 'Lib.IsBuilderF' (a builder that 'String()' may have read), AND WITH THE FRAME THAT REACHES ABOVE THE BUILDER: 'Lib.OthersKept': every block that is not b and is no row of uint8's stands as it stood: the iterator of a range among them. (LAID: no walk: one application.) -/
theorem Tryd.Builder_String_k (B b : Nat) (l : List UInt8) (w : World) (h : Lib.IsBuilderF 106 5 B b (Lib.byteCells l) w) (h0 : l ≠ []) :
    Calls Tryd.prog 96 #[.pointer (some ⟨b, 0, none⟩)] w fun e w' => e = .returned (.string ⟨l.toArray⟩) ∧ (Lib.IsBuilderF 106 5 B b (Lib.byteCells l) w' ∧ Below B w w' ∧ Lib.OthersKept 5 (some b) w w') := Any.Builder_String_k Tryd.lays169 Tryd.Builder_Extra_169 B b l w h h0
open Go.RowKit in
/-- (*strings.Builder).String OF A BUILDER THAT HOLDS NO BYTE: the empty string; THE FORM '_k': OVER 'Lib.IsBuilderF' (a builder that 'String()' may have read), AND WITH THE FRAME THAT REACHES ABOVE THE BUILDER: 'Lib.OthersKept': every block that is not b and is no row of uint8's stands as it stood: the iterator of a range among them. (LAID: no walk: one application.) -/
theorem Tryd.Builder_String_empty_k (B b : Nat) (w : World) (h : Lib.IsBuilderF 106 5 B b [] w) (hBw : B ≤ w.heap.size) :
    Calls Tryd.prog 96 #[.pointer (some ⟨b, 0, none⟩)] w fun e w' => e = .returned (.string ⟨#[]⟩) ∧ (Lib.IsBuilderF 106 5 B b [] w' ∧ Below B w w' ∧ Lib.OthersKept 5 (some b) w w') := Any.Builder_String_empty_k Tryd.lays169 Tryd.Builder_Extra_169 B b w h hBw
open Go.RowKit in
/-- (*strings.Builder).String: "String returns the accumulated string.": WHATEVER THE BUILDER HOLDS; THE FORM '_k': OVER 'Lib.IsBuilderF' (a builder that 'String()' may have read), AND WITH THE FRAME THAT REACHES ABOVE THE BUILDER: 'Lib.OthersKept': every block that is not b and is no row of uint8's stands as it stood: the iterator of a range among them. (LAID: no walk: one application.) -/
theorem Tryd.Builder_String_any_k (B b : Nat) (l : List UInt8) (w : World) (h : Lib.IsBuilderF 106 5 B b (Lib.byteCells l) w) (hBw : B ≤ w.heap.size) :
    Calls Tryd.prog 96 #[.pointer (some ⟨b, 0, none⟩)] w fun e w' => e = .returned (.string ⟨l.toArray⟩) ∧ (Lib.IsBuilderF 106 5 B b (Lib.byteCells l) w' ∧ Below B w w' ∧ Lib.OthersKept 5 (some b) w w') := Any.Builder_String_any_k Tryd.lays169 Tryd.Builder_Extra_169 B b l w h hBw
def Tryd.lays278_ren : Go.Shelf.Ren := ⟨fun | 278 => 107 | n => n, fun | 37 => 52 | 21 => 21 | 51 => 132 | 4 => 4 | 46 => 125 | 5 => 5 | n => n, fun | n => n⟩
theorem Tryd.lays278 : Go.Proofs.Lays.n278 Tryd.prog Tryd.lays278_ren := {
  mixed := by kernel_rfl
  f278 := Tryd.func107.trans (congrArg some (by kernel_rfl))
  t4 := Tryd.underlying4
  a4 := Tryd.isAgg4
  z4 := Tryd.sizeOf4
  v4 := Tryd.zeroValue4
  t5 := Tryd.underlying5
  a5 := Tryd.isAgg5
  z5 := Tryd.sizeOf5
  v5 := Tryd.zeroValue5
  t21 := Tryd.underlying21
  a21 := Tryd.isAgg21
  z21 := Tryd.sizeOf21
  v21 := Tryd.zeroValue21
  t37 := Tryd.underlying52
  a37 := Tryd.isAgg52
  z37 := Tryd.sizeOf52
  v37 := Tryd.zeroValue52
  t46 := Tryd.underlying125
  a46 := Tryd.isAgg125
  z46 := Tryd.sizeOf125
  v46 := Tryd.zeroValue125
  t51 := Tryd.underlying132
  a51 := Tryd.isAgg132
  z51 := Tryd.sizeOf132
  v51 := Tryd.zeroValue132 }
open Go.RowKit in
/-- unicode/utf8.appendRuneNonASCII (what AppendRune calls for all but ASCII), ONTO A ROW OF BYTES THAT THE CALL OWNS: every int32 that is no ASCII rune: 'Lib.runeCells r' goes in behind what the row holds. (LAID: no walk: one application.) -/
theorem Tryd.utf8_appendRuneNonASCII_plain (B : Nat) (v : Value) (n : Nat) (xs : List Value) (r : Int) (hr0 : -2147483648 ≤ r) (hr1 : r ≤ 2147483647) (hna : r < 0 ∨ 128 ≤ r) (w : World) (hown : w.ownsRow B 5 1 v n xs) (hlen : n + 4 ≤ 140737488355328) (hBw : B ≤ w.heap.size) :
    Calls Tryd.prog 107 #[v, .int .i32 r] w fun e w' => ∃ v', e = .returned v' ∧ w'.ownsRow B 5 1 v' (n + (Lib.runeCells r).length) (xs ++ Lib.runeCells r) ∧ ∃ o, (w.alloc o).grownBy w' v.ownBlock := Any.utf8_appendRuneNonASCII_plain Tryd.lays278 (by kernel_rfl) B v n xs r hr0 hr1 hna w hown hlen hBw
def Tryd.lays242_ren : Go.Shelf.Ren := ⟨fun | 242 => 103 | 278 => 107 | n => n, fun | 37 => 52 | 21 => 21 | 51 => 132 | 4 => 4 | 5 => 5 | 46 => 125 | n => n, fun | n => n⟩
theorem Tryd.lays242 : Go.Proofs.Lays.n242 Tryd.prog Tryd.lays242_ren := {
  mixed := by kernel_rfl
  f242 := Tryd.func103.trans (congrArg some (by kernel_rfl))
  f278 := Tryd.func107.trans (congrArg some (by kernel_rfl))
  t4 := Tryd.underlying4
  a4 := Tryd.isAgg4
  z4 := Tryd.sizeOf4
  v4 := Tryd.zeroValue4
  t5 := Tryd.underlying5
  a5 := Tryd.isAgg5
  z5 := Tryd.sizeOf5
  v5 := Tryd.zeroValue5
  t21 := Tryd.underlying21
  a21 := Tryd.isAgg21
  z21 := Tryd.sizeOf21
  v21 := Tryd.zeroValue21
  t37 := Tryd.underlying52
  a37 := Tryd.isAgg52
  z37 := Tryd.sizeOf52
  v37 := Tryd.zeroValue52
  t46 := Tryd.underlying125
  a46 := Tryd.isAgg125
  z46 := Tryd.sizeOf125
  v46 := Tryd.zeroValue125
  t51 := Tryd.underlying132
  a51 := Tryd.isAgg132
  z51 := Tryd.sizeOf132
  v51 := Tryd.zeroValue132 }
open Go.RowKit in
/-- unicode/utf8.AppendRune: "AppendRune appends the UTF-8 encoding of r to the end of p and returns the extended buffer. If the rune is out of range, it appends the encoding of RuneError.": ONTO A ROW OF BYTES THAT THE CALL OWNS (its head frozen or not): EVERY int32: 'Lib.runeCells r' goes in behind what the row holds; the world: one new block (the bytes as the call's variadic argument), then what 'append' does to the row. (LAID: no walk: one application.) -/
theorem Tryd.utf8_AppendRune_plain (B : Nat) (v : Value) (n : Nat) (xs : List Value) (r : Int) (hr0 : -2147483648 ≤ r) (hr1 : r ≤ 2147483647) (w : World) (hown : w.ownsRow B 5 1 v n xs) (hlen : n + 4 ≤ 140737488355328) (hBw : B ≤ w.heap.size) :
    Calls Tryd.prog 103 #[v, .int .i32 r] w fun e w' => ∃ v', e = .returned v' ∧ w'.ownsRow B 5 1 v' (n + (Lib.runeCells r).length) (xs ++ Lib.runeCells r) ∧ ∃ o, (w.alloc o).grownBy w' v.ownBlock := Any.utf8_AppendRune_plain Tryd.lays242 (by kernel_rfl) B v n xs r hr0 hr1 w hown hlen hBw
open Go.RowKit in
/-- (*strings.Builder).grow (no doc but "grow copies the buffer to a new, larger buffer so that there are at least n bytes of capacity beyond len(b.buf)."): AT A BUILDER WITHOUT A BUFFER: a new row of whatever bytes for its buffer, none of them its own yet. Three draws. (LAID: no walk: one application.) -/
theorem Tryd.Builder_grow_fresh_cap (B b n : Nat) (w : World) (hB : B ≤ b) (hbk : w.heap[b]? = some (.cells #[.pointer (some ⟨b, 0, none⟩), .slice none 0 0] 106 (0, 0))) (hBw : B ≤ w.heap.size) (hn : n ≤ 281474976710656) :
    Calls Tryd.prog 102 #[.pointer (some ⟨b, 0, none⟩), .int .i64 n] w fun e w' => e = .returned (.tuple #[]) ∧ (Lib.BuilderAt 106 5 B b (.pointer (some ⟨b, 0, none⟩)) [] w' ∧ Below B w w') ∧ ∃ p cap, w'.cell? ⟨b, 1, none⟩ = some (.slice p 0 cap) ∧ n ≤ cap := Any.Builder_grow_fresh_cap Tryd.lays241 Tryd.Builder_Extra_241 B b n w hB hbk hBw hn
open Go.RowKit in
/-- (*strings.Builder).Grow AT A BUILDER THAT HAS NOT BEEN WRITTEN ('var b strings.Builder; b.Grow(n)'): "Grow grows b's capacity, if necessary, to guarantee space for another n bytes.": it holds no byte behind it as before it. (LAID: no walk: one application.) -/
theorem Tryd.Builder_Grow_fresh_cap (B b n : Nat) (w : World) (hB : B ≤ b) (hbk : w.heap[b]? = some (.cells #[.pointer none, .slice none 0 0] 106 (0, 0))) (hBw : B ≤ w.heap.size) (hn : n ≤ 281474976710656) :
    Calls Tryd.prog 91 #[.pointer (some ⟨b, 0, none⟩), .int .i64 n] w fun e w' => e = .returned (.tuple #[]) ∧ (Lib.BuilderAt 106 5 B b (.pointer (some ⟨b, 0, none⟩)) [] w' ∧ Below B w w') ∧ ∃ p cap, w'.cell? ⟨b, 1, none⟩ = some (.slice p 0 cap) ∧ n ≤ cap := Any.Builder_Grow_fresh_cap Tryd.lays165 Tryd.Builder_Extra_165 B b n w hB hbk hBw hn
def Tryd.lays197_ren : Go.Shelf.Ren := ⟨fun | 197 => 89 | 260 => 100 | n => n, fun | 9 => 9 | 21 => 21 | 3 => 3 | 4 => 4 | 5 => 5 | 105 => 107 | 119 => 124 | 0 => 0 | 46 => 125 | 139 => 128 | 138 => 127 | n => n, fun | 3 => 0 | 4 => 1 | n => n⟩
theorem Tryd.lays197 : Go.Proofs.Lays.n197 Tryd.prog Tryd.lays197_ren := {
  mixed := by kernel_rfl
  f197 := Tryd.func89.trans (congrArg some (by kernel_rfl))
  f260 := Tryd.func100.trans (congrArg some (by kernel_rfl))
  t0 := Tryd.underlying0
  a0 := Tryd.isAgg0
  z0 := Tryd.sizeOf0
  v0 := Tryd.zeroValue0
  t3 := Tryd.underlying3
  a3 := Tryd.isAgg3
  z3 := Tryd.sizeOf3
  v3 := Tryd.zeroValue3
  t4 := Tryd.underlying4
  a4 := Tryd.isAgg4
  z4 := Tryd.sizeOf4
  v4 := Tryd.zeroValue4
  t5 := Tryd.underlying5
  a5 := Tryd.isAgg5
  z5 := Tryd.sizeOf5
  v5 := Tryd.zeroValue5
  t9 := Tryd.underlying9
  a9 := Tryd.isAgg9
  z9 := Tryd.sizeOf9
  v9 := Tryd.zeroValue9
  t21 := Tryd.underlying21
  a21 := Tryd.isAgg21
  z21 := Tryd.sizeOf21
  v21 := Tryd.zeroValue21
  t46 := Tryd.underlying125
  a46 := Tryd.isAgg125
  z46 := Tryd.sizeOf125
  v46 := Tryd.zeroValue125
  t105 := Tryd.underlying107
  a105 := Tryd.isAgg107
  z105 := Tryd.sizeOf107
  v105 := Tryd.zeroValue107
  t119 := Tryd.underlying124
  a119 := Tryd.isAgg124
  z119 := Tryd.sizeOf124
  t138 := Tryd.underlying127
  a138 := Tryd.isAgg127
  z138 := Tryd.sizeOf127
  v138 := Tryd.zeroValue127
  t139 := Tryd.underlying128
  a139 := Tryd.isAgg128
  z139 := Tryd.sizeOf128
  v139 := Tryd.zeroValue128
  g3 := by kernel_rfl
  g4 := by kernel_rfl }
open Go.RowKit Go.Lib in
/-- unicode/utf8.DecodeRuneInString: "DecodeRuneInString is like DecodeRune but its input is a string.": ("DecodeRune unpacks the first UTF-8 encoding in p and returns the rune and its width in bytes."): WHERE s BEGINS WITH AN ASCII BYTE x: (x, 1). (LAID: no walk: one application.) -/
theorem Tryd.utf8_DecodeRuneInString_ascii (s : ByteArray) (x : UInt8) (w : World) (h0 : s.data.toList[0]? = some x) (hx : x.toNat < 128) :
    Calls Tryd.prog 89 #[.string s] w fun e w' => e = .returned (.tuple #[.int .i32 x.toNat, .int .i64 1]) ∧ w' = w := Any.utf8_DecodeRuneInString_ascii Tryd.lays197 s x w h0 hx
def Tryd.lays260_ren : Go.Shelf.Ren := ⟨fun | 260 => 100 | n => n, fun | 9 => 9 | 21 => 21 | 3 => 3 | 4 => 4 | 5 => 5 | 119 => 124 | 0 => 0 | 46 => 125 | 139 => 128 | 138 => 127 | n => n, fun | 3 => 0 | 4 => 1 | n => n⟩
theorem Tryd.lays260 : Go.Proofs.Lays.n260 Tryd.prog Tryd.lays260_ren := {
  mixed := by kernel_rfl
  f260 := Tryd.func100.trans (congrArg some (by kernel_rfl))
  t0 := Tryd.underlying0
  a0 := Tryd.isAgg0
  z0 := Tryd.sizeOf0
  v0 := Tryd.zeroValue0
  t3 := Tryd.underlying3
  a3 := Tryd.isAgg3
  z3 := Tryd.sizeOf3
  v3 := Tryd.zeroValue3
  t4 := Tryd.underlying4
  a4 := Tryd.isAgg4
  z4 := Tryd.sizeOf4
  v4 := Tryd.zeroValue4
  t5 := Tryd.underlying5
  a5 := Tryd.isAgg5
  z5 := Tryd.sizeOf5
  v5 := Tryd.zeroValue5
  t9 := Tryd.underlying9
  a9 := Tryd.isAgg9
  z9 := Tryd.sizeOf9
  v9 := Tryd.zeroValue9
  t21 := Tryd.underlying21
  a21 := Tryd.isAgg21
  z21 := Tryd.sizeOf21
  v21 := Tryd.zeroValue21
  t46 := Tryd.underlying125
  a46 := Tryd.isAgg125
  z46 := Tryd.sizeOf125
  v46 := Tryd.zeroValue125
  t119 := Tryd.underlying124
  a119 := Tryd.isAgg124
  z119 := Tryd.sizeOf124
  t138 := Tryd.underlying127
  a138 := Tryd.isAgg127
  z138 := Tryd.sizeOf127
  v138 := Tryd.zeroValue127
  t139 := Tryd.underlying128
  a139 := Tryd.isAgg128
  z139 := Tryd.sizeOf128
  v139 := Tryd.zeroValue128
  g3 := by kernel_rfl
  g4 := by kernel_rfl }
open Go.RowKit Go.Lib in
theorem Tryd.utf8_decodeRuneInStringSlow (s : ByteArray) (w : World) (hT : Lib.Utf8Tabs 0 1 w) :
    Calls Tryd.prog 100 #[.string s] w fun e w' => e = .returned (.tuple #[.int .i32 (Lib.decodeGo s).1, .int .i64 (Lib.decodeGo s).2]) ∧ Below w.heap.size w w' := Any.utf8_decodeRuneInStringSlow Tryd.lays260 s w hT
open Go.RowKit Go.Lib in
/-- **unicode/utf8.DecodeRuneInString AT EVERY STRING.** (LAID: no walk: one application.) -/
theorem Tryd.utf8_DecodeRuneInString (s : ByteArray) (w : World) (hT : Lib.Utf8Tabs 0 1 w) :
    Calls Tryd.prog 89 #[.string s] w fun e w' => e = .returned (.tuple #[.int .i32 (Lib.decodeGo s).1, .int .i64 (Lib.decodeGo s).2]) ∧ Below w.heap.size w w' := Any.utf8_DecodeRuneInString Tryd.lays197 s w hT
def Tryd.lays270_ren : Go.Shelf.Ren := ⟨fun | 270 => 94 | n => n, fun | 70 => 104 | 3 => 3 | 0 => 0 | 72 => 106 | 37 => 52 | 5 => 5 | n => n, fun | n => n⟩
theorem Tryd.lays270 : Go.Proofs.Lays.n270 Tryd.prog Tryd.lays270_ren := {
  mixed := by kernel_rfl
  f270 := Tryd.func94.trans (congrArg some (by kernel_rfl))
  t0 := Tryd.underlying0
  a0 := Tryd.isAgg0
  z0 := Tryd.sizeOf0
  v0 := Tryd.zeroValue0
  t3 := Tryd.underlying3
  a3 := Tryd.isAgg3
  z3 := Tryd.sizeOf3
  v3 := Tryd.zeroValue3
  t37 := Tryd.underlying52
  a37 := Tryd.isAgg52
  z37 := Tryd.sizeOf52
  v37 := Tryd.zeroValue52
  t70 := Tryd.underlying104
  a70 := Tryd.isAgg104
  z70 := Tryd.sizeOf104
  v70 := Tryd.zeroValue104
  t72 := Tryd.underlying106
  a72 := Tryd.isAgg106
  z72 := Tryd.sizeOf106
  v72 := Tryd.zeroValue106 }
open Go.RowKit Go.Lib in
/-- (*strings.Builder).Cap: "Cap returns the capacity of the builder's underlying byte slice." (LAID: no walk: one application.) -/
theorem Tryd.Builder_Cap_cell (b : Nat) (p : Option Addr) (n cap : Nat) (w : World) (c1 : w.cell? ⟨b, 1, none⟩ = some (.slice p n cap)) :
    Calls Tryd.prog 94 #[.pointer (some ⟨b, 0, none⟩)] w fun e w' => e = .returned (.int .i64 cap) ∧ w' = w := Any.Builder_Cap_cell Tryd.lays270 b p n cap w c1
def Tryd.lays230_ren : Go.Shelf.Ren := ⟨fun | 230 => 70 | 197 => 89 | 118 => 90 | 165 => 91 | 166 => 92 | 168 => 93 | 270 => 94 | 167 => 95 | 169 => 96 | 260 => 100 | 240 => 101 | 241 => 102 | 242 => 103 | 276 => 105 | 277 => 106 | 278 => 107 | n => n, fun | 107 => 84 | 9 => 9 | 72 => 106 | 0 => 0 | 4 => 4 | 3 => 3 | 21 => 21 | 105 => 107 | 76 => 113 | 5 => 5 | 75 => 112 | 70 => 104 | 20 => 20 | 37 => 52 | 127 => 123 | 119 => 124 | 46 => 125 | 139 => 128 | 138 => 127 | 164 => 129 | 51 => 132 | 80 => 117 | n => n, fun | 3 => 0 | 4 => 1 | n => n⟩
theorem Tryd.lays230 : Go.Proofs.Lays.n230 Tryd.prog Tryd.lays230_ren := {
  mixed := by kernel_rfl
  f118 := Tryd.func90.trans (congrArg some (by kernel_rfl))
  f165 := Tryd.func91.trans (congrArg some (by kernel_rfl))
  f166 := Tryd.func92.trans (congrArg some (by kernel_rfl))
  f167 := Tryd.func95.trans (congrArg some (by kernel_rfl))
  f168 := Tryd.func93.trans (congrArg some (by kernel_rfl))
  f169 := Tryd.func96.trans (congrArg some (by kernel_rfl))
  f197 := Tryd.func89.trans (congrArg some (by kernel_rfl))
  f230 := Tryd.func70.trans (congrArg some (by kernel_rfl))
  f240 := Tryd.func101.trans (congrArg some (by kernel_rfl))
  f241 := Tryd.func102.trans (congrArg some (by kernel_rfl))
  f242 := Tryd.func103.trans (congrArg some (by kernel_rfl))
  f260 := Tryd.func100.trans (congrArg some (by kernel_rfl))
  f270 := Tryd.func94.trans (congrArg some (by kernel_rfl))
  f276 := Tryd.func105.trans (congrArg some (by kernel_rfl))
  f277 := Tryd.func106.trans (congrArg some (by kernel_rfl))
  f278 := Tryd.func107.trans (congrArg some (by kernel_rfl))
  t0 := Tryd.underlying0
  a0 := Tryd.isAgg0
  z0 := Tryd.sizeOf0
  v0 := Tryd.zeroValue0
  t3 := Tryd.underlying3
  a3 := Tryd.isAgg3
  z3 := Tryd.sizeOf3
  v3 := Tryd.zeroValue3
  t4 := Tryd.underlying4
  a4 := Tryd.isAgg4
  z4 := Tryd.sizeOf4
  v4 := Tryd.zeroValue4
  t5 := Tryd.underlying5
  a5 := Tryd.isAgg5
  z5 := Tryd.sizeOf5
  v5 := Tryd.zeroValue5
  t9 := Tryd.underlying9
  a9 := Tryd.isAgg9
  z9 := Tryd.sizeOf9
  v9 := Tryd.zeroValue9
  t20 := Tryd.underlying20
  a20 := Tryd.isAgg20
  z20 := Tryd.sizeOf20
  v20 := Tryd.zeroValue20
  t21 := Tryd.underlying21
  a21 := Tryd.isAgg21
  z21 := Tryd.sizeOf21
  v21 := Tryd.zeroValue21
  t37 := Tryd.underlying52
  a37 := Tryd.isAgg52
  z37 := Tryd.sizeOf52
  v37 := Tryd.zeroValue52
  t46 := Tryd.underlying125
  a46 := Tryd.isAgg125
  z46 := Tryd.sizeOf125
  v46 := Tryd.zeroValue125
  t51 := Tryd.underlying132
  a51 := Tryd.isAgg132
  z51 := Tryd.sizeOf132
  v51 := Tryd.zeroValue132
  t70 := Tryd.underlying104
  a70 := Tryd.isAgg104
  z70 := Tryd.sizeOf104
  v70 := Tryd.zeroValue104
  t72 := Tryd.underlying106
  a72 := Tryd.isAgg106
  z72 := Tryd.sizeOf106
  v72 := Tryd.zeroValue106
  t75 := Tryd.underlying112
  a75 := Tryd.isAgg112
  z75 := Tryd.sizeOf112
  v75 := Tryd.zeroValue112
  t76 := Tryd.underlying113
  a76 := Tryd.isAgg113
  z76 := Tryd.sizeOf113
  v76 := Tryd.zeroValue113
  t105 := Tryd.underlying107
  a105 := Tryd.isAgg107
  z105 := Tryd.sizeOf107
  v105 := Tryd.zeroValue107
  t107 := Tryd.underlying84
  a107 := Tryd.isAgg84
  z107 := Tryd.sizeOf84
  v107 := Tryd.zeroValue84
  t119 := Tryd.underlying124
  a119 := Tryd.isAgg124
  z119 := Tryd.sizeOf124
  t127 := Tryd.underlying123
  a127 := Tryd.isAgg123
  z127 := Tryd.sizeOf123
  v127 := Tryd.zeroValue123
  t138 := Tryd.underlying127
  a138 := Tryd.isAgg127
  z138 := Tryd.sizeOf127
  v138 := Tryd.zeroValue127
  t139 := Tryd.underlying128
  a139 := Tryd.isAgg128
  z139 := Tryd.sizeOf128
  v139 := Tryd.zeroValue128
  t164 := Tryd.underlying129
  a164 := Tryd.isAgg129
  z164 := Tryd.sizeOf129
  v164 := Tryd.zeroValue129
  g3 := by kernel_rfl
  g4 := by kernel_rfl }
theorem Tryd.Builder_Extra_230 : Builder.Extra Tryd.prog Tryd.lays230_ren := {
  sizeBuilder := by kernel_rfl
  liesBuilder := by kernel_rfl
  t5 := Tryd.underlying5
  a5 := Tryd.isAgg5
  z5 := Tryd.sizeOf5
  v5 := Tryd.zeroValue5
  infoByte := by kernel_rfl
  cellsByte := by kernel_rfl
  sizeByte := by kernel_rfl
  neB5 := by decide }
open Go.RowKit Go.Lib in
theorem Tryd.strings_Map_runes (g : Nat) (lb : Array Value) (eg : ∀ args w, (callFunc g args).run Tryd.prog w = .ok (.enter g args) w) (f : Int → Int) (s : ByteArray) (w : World) (hs : s.size < 35184372088832) (hf : MapAtRunes Tryd.prog g lb f w) (hnn : ∀ x : Nat, x ≤ 1114111 → 0 ≤ f x ∧ f x ≤ 2147483647) (hT : Lib.Utf8Tabs 0 1 w) :
    Calls Tryd.prog 70 #[.func (.func g) #[] lb, .string s] w fun e w' => e = .returned (.string ⟨(Lib.mapD f s.data.toList).toArray⟩) ∧ Below w.heap.size w w' := Any.strings_Map_runes Tryd.lays230 Tryd.Builder_Extra_230 g lb eg f s w hs hf hnn hT
open Go.RowKit Go.Lib in
/-- **strings.Map(mapping, s) AT EVERY STRING, AT WHATEVER FUNCTION VALUE: IT MAY DROP RUNES (a negative result); IT MAY GROW THE HEAP.** (LAID: no walk: one application.) -/
theorem Tryd.strings_Map_grows (g : Nat) (lb : Array Value) (eg : ∀ args w, (callFunc g args).run Tryd.prog w = .ok (.enter g args) w) (f : Int → Int) (s : ByteArray) (w : World) (hs : s.size < 35184372088832) (hf : MapGrows Tryd.prog g lb f w) (hnn : ∀ x : Nat, x ≤ 1114111 → -2147483648 ≤ f x ∧ f x ≤ 2147483647) (hT : Lib.Utf8Tabs 0 1 w) :
    Calls Tryd.prog 70 #[.func (.func g) #[] lb, .string s] w fun e w' => e = .returned (.string ⟨(Lib.mapD f s.data.toList).toArray⟩) ∧ Below w.heap.size w w' := Any.strings_Map_grows Tryd.lays230 Tryd.Builder_Extra_230 g lb eg f s w hs hf hnn hT
end Go.Proofs

/- The builder: copyCheck and WriteByte, walked at this program. Their conditions are their premises. -/
namespace Go.Proofs.YtilacamhjibneaaDoor
open Go.RowKit

theorem info106 : (Tryd.prog.info? 106).map (·.size) = some 2 := by kernel_rfl
theorem lies106 : liesAt Tryd.prog Tryd.prog.depth 106 (2 / Tryd.prog.cellsOf 106) 0 106 1 = true := by kernel_rfl
theorem infoByte : (Tryd.prog.info? 5).map (fun i => (i.zero, i.size, i.bytes)) = some (some (.int .u8 0), 1, 1) := by kernel_rfl

set_option maxHeartbeats 1000000 in
set_option maxRecDepth 100000 in
theorem check_used (b : Nat) (w : World) (h0 : w.cell? ⟨b, 0, none⟩ = some (.pointer (some ⟨b, 0, none⟩))) :
    Calls Tryd.prog 101 #[.pointer (some ⟨b, 0, none⟩)] w fun e w' => e = .returned (.tuple #[]) ∧ w' = w := by
  obtain ⟨j, hj, _⟩ := Option.map_eq_some_iff.1 info106
  go_enter Tryd.func101, Tryd.ntmps101
  go_wp2
  rw [Lib.run_neq_ptr_same w _ Tryd.underlying104 hj]
  go_wp2
  go_end0
  exact ⟨rfl, rfl⟩

set_option maxHeartbeats 1000000 in
set_option maxRecDepth 100000 in
theorem check_fresh (b : Nat) (w : World) (h0 : w.cell? ⟨b, 0, none⟩ = some (.pointer none)) (hsh : w.shape? b = some (106, 2)) (hfz : w.frozen? ⟨b, 0, none⟩ = false) :
    Calls Tryd.prog 101 #[.pointer (some ⟨b, 0, none⟩)] w fun e w' => e = .returned (.tuple #[]) ∧ w' = w.setCell ⟨b, 0, none⟩ (.pointer (some ⟨b, 0, none⟩)) := by
  obtain ⟨j, hj, hjs⟩ := Option.map_eq_some_iff.1 info106
  go_enter Tryd.func101, Tryd.ntmps101
  go_wp2
  rw [Lib.run_to_unsafe w ⟨b, 0, none⟩ Tryd.underlying104 Tryd.underlying129 hj (by rw [hjs]; decide) hsh (Nat.zero_lt_succ 1)]
  simp only [Result.andThen]
  rw [Oper.upon_value]
  go_wp2
  rw [run_callFunc_extern Tryd.func105 (by kernel_rfl) (by kernel_rfl) (by kernel_rfl) (e := Extern.AbiNoEscape.same) (by kernel_rfl)]
  rw [Lib.run_noEscape]
  simp only [Result.andThen]
  rw [Oper.upon_value]
  go_wp2
  rw [Lib.run_from_unsafe w ⟨b, 0, none⟩ Tryd.underlying129 Tryd.underlying104 hj hsh lies106]
  simp only [Result.andThen]
  rw [Oper.upon_value]
  go_wp2
  go_end0
  exact ⟨rfl, rfl⟩

theorem check_any (B b : Nat) (bs : List Value) (w : World) (h : Lib.IsBuilder 106 5 B b bs w) :
    Calls Tryd.prog 101 #[.pointer (some ⟨b, 0, none⟩)] w fun e w' => e = .returned (.tuple #[]) ∧ (Lib.BuilderAt 106 5 B b (.pointer (some ⟨b, 0, none⟩)) bs w' ∧ Below B w w') := by
  rcases h with h | h
  · refine (check_fresh b w h.cell0 h.shape h.frozen0).mono ?_
    rintro e w' ⟨rfl, rfl⟩
    exact ⟨rfl, h.used _, (Below.refl B w).setCell (p := ⟨b, 0, none⟩) h.1 _⟩
  · refine (check_used b w h.cell0).mono ?_
    rintro e w' ⟨rfl, rfl⟩
    exact ⟨rfl, h, Below.refl B _⟩

set_option maxHeartbeats 1000000 in
set_option maxRecDepth 100000 in
theorem byte_any (B b : Nat) (bs : List Value) (c : Int) (w : World) (h : Lib.IsBuilder 106 5 B b bs w) (hlen : bs.length + 1 ≤ 140737488355328) (hBw : B ≤ w.heap.size) :
    Calls Tryd.prog 95 #[.pointer (some ⟨b, 0, none⟩), .int .u8 c] w fun e w' => e = .returned .nilIface ∧ (Lib.BuilderAt 106 5 B b (.pointer (some ⟨b, 0, none⟩)) (bs ++ [.int .u8 c]) w' ∧ Below B w w') := by
  obtain ⟨i0, hi, hz0, hz1, hz2⟩ := info_parts infoByte
  go_enter Tryd.func95, Tryd.ntmps95
  go_wp2_with (go_at_call 101; refine (check_any B b bs _ h).mono ?_)
  rintro e w1 ⟨rfl, h1, hb1⟩
  obtain ⟨hB, v, hbk, hown, hne⟩ := h1
  have c0 : w1.cell? ⟨b, 0, none⟩ = some (.pointer (some ⟨b, 0, none⟩)) := by rw [Lib.cell_of_heap hbk]; rfl
  have c1 : w1.cell? ⟨b, 1, none⟩ = some v := by rw [Lib.cell_of_heap hbk]; rfl
  go_wp2_with (at_builtin; refine wpList_append_own _ rfl _ _ 52 rfl B 5 i0 (.int .u8 0) 1 1 Tryd.underlying52 hi hz0 hz1 hz2 rfl (by decide) _ _ _ rfl (hown.alloc _) ⟨w1.heap.size, 0, none⟩ 1 1 [.int .u8 c] rfl rfl (by
    intro j u hj
    match j, hj with
    | 0, hj => simp at hj; subst hj; simp [Addr.add]) (by intro u hu; simp at hu; subst hu; rfl) (by unfold maxLen; omega) (by omega) (by have := hb1.size; simp; omega) ?_)
  intro v' w2 hown' hgrow _
  have hlt : b < w1.heap.size := by
    rcases Nat.lt_or_ge b w1.heap.size with h' | h'
    · exact h'
    · simp [Array.getElem?_eq_none h'] at hbk
  have hb2 : w2.heap[b]? = some (.cells #[.pointer (some ⟨b, 0, none⟩), v] 106 (0, 0)) := by
    rw [hgrow.block b (by simp; omega) (fun e => hne e.symm), Lib.alloc_old w1 _ b hlt]
    exact hbk
  have d0 : w2.cell? ⟨b, 0, none⟩ = some (.pointer (some ⟨b, 0, none⟩)) := by rw [Lib.cell_of_heap hb2]; rfl
  have d1 : w2.cell? ⟨b, 1, none⟩ = some v := by rw [Lib.cell_of_heap hb2]; rfl
  have f1 : w2.frozen? ⟨b, 1, none⟩ = false := Lib.frozen_of_heap hb2 1
  obtain ⟨g, cap, rfl⟩ : ∃ g cap, v' = .slice (some ⟨g, 0, none⟩) (bs.length + 1) cap := by
    rcases hown'.2 with ⟨_, h0⟩ | ⟨g, cap, cur, hv, _⟩
    · omega
    · exact ⟨g, cap, hv⟩
  go_wp2
  go_ret
  refine ⟨rfl, ?_, ?_⟩
  · exact Lib.BuilderAt.put (T := 106) (e := 5) hB hb2 (bs' := bs ++ [.int .u8 c]) (by simpa using hown') (by decide)
  · exact ((hb1.alloc (by have := hb1.size; omega) _).grown hgrow (by have := hb1.size; simp; omega) (fun k hk => (hown.lt k hk).1)).setCell (p := ⟨b, 1, none⟩) hB _
end Go.Proofs.YtilacamhjibneaaDoor

/- What a shoot becomes, letter by letter: the iterator. Its conditions are its premises. -/
namespace Go.Proofs.YtilacamhjibneaaDoor
open Go.RowKit Go.Shelf
attribute [local go_sem] Oper.semAt_some

/-- What a shoot becomes. -/
def grow1 (V : List (List Nat)) (t : List Nat) : List Nat := t.flatMap (part V)
theorem grow1_take (V : List (List Nat)) (t : List Nat) {i : Nat} (h : i < t.length) : grow1 V (t.take (i + 1)) = grow1 V (t.take i) ++ part V t[i] := by
  unfold grow1
  rw [List.take_succ_eq_append_getElem h, List.flatMap_append]
  simp
theorem grow1_le (V : List (List Nat)) (t : List Nat) {i k : Nat} (h : i < t.length) (hk : k < (part V t[i]).length) : (grow1 V (t.take i) ++ (part V t[i]).take k).length < (grow1 V t).length := by
  have e : grow1 V t = grow1 V (t.take (i + 1)) ++ grow1 V (t.drop (i + 1)) := by
    unfold grow1
    rw [← List.flatMap_append, List.take_append_drop]
  rw [e, grow1_take V t h, List.length_append, List.length_append, List.length_append, List.length_take]
  omega

/-- What the rounds keep: all but block bb and what lies from n₀ on. -/
def KpN (bb n₀ : Nat) (A B : World) : Prop := Chg (fun k => k = bb ∨ n₀ ≤ k) A B
theorem KpN.trans {bb n₀ : Nat} {A B C : World} (h : KpN bb n₀ A B) (k : KpN bb n₀ B C) : KpN bb n₀ A C := Chg.trans h k (fun _ x => .inl x)

/-- How a round has been left. -/
def Rd (ys : List Nat) (J Jx : List Nat → World → Prop) (bb n₀ : Nat) (A B : World) (r : Bool) : Prop := (r = true ∧ J ys B ∧ KpN bb n₀ A B) ∨ (r = false ∧ Jx ys B)

set_option maxRecDepth 100000 in
set_option maxHeartbeats 2000000 in
theorem grown1_in (n : Nat) (hn : 1 ≤ n) (l bb n₀ sb vb b off cap : Nat) (V : List (List Nat)) (hV : WF V) (t : List Nat) (ht : ∀ c ∈ t, c < V.length) (hl : t.length ≤ 200000)
    (hsb : sb < n₀ ∧ sb ≠ bb) (hvb : vb < n₀ ∧ vb ≠ bb) (hb : b < n₀ ∧ b ≠ bb) (J Jx : List Nat → World → Prop)
    (hY : ∀ pre x W, J pre W → pre.length < (grow1 V t).length → YieldAt Fence.wide (n - 1) Tryd.prog l #[.int .u8 ((97 + x : Nat) : Int)] W fun e W' =>
      (e = .returned (.bool true) ∧ J (pre ++ [x]) W' ∧ KpN bb n₀ W W') ∨ (e = .returned (.bool false) ∧ Jx (pre ++ [x]) W'))
    (W : World) (hs : W.cell? ⟨sb, 0, none⟩ = some (.string (str t))) (hv : W.cell? ⟨vb, 0, none⟩ = some (.slice (some ⟨b, off, none⟩) V.length cap)) (hva : VAt W b off V) (hn0 : n₀ ≤ W.heap.size) (hJ : ∀ s A k, J s A → J s (A.drewN k)) (h0 : J [] W) :
    CallsIn Fence.wide n Tryd.prog 104 #[.func (.yield l) #[] #[], .pointer (some ⟨sb, 0, none⟩), .pointer (some ⟨vb, 0, none⟩)] W fun e W' => (∃ v, e = .returned v) ∧
      ((∃ ys, ys = grow1 V t ∧ J ys W') ∨ (∃ pre : List Nat, True ∧ Jx pre W')) := by
  have hsz := str_size t
  refine callsIn_of_wp Tryd.func104 rfl trivial ?_ rfl
  simp only [Tryd.ntmps104, List.size_toArray, List.length_cons, List.length_nil, Nat.reduceAdd, Nat.reduceSub, Array.replicate_succ, Array.replicate_zero, List.push_toArray, List.append_toArray, List.nil_append, List.cons_append]
  have HS := Lib.hid hs; have HV := Lib.hid hv; have HVA := Lib.hid hva; have HJ := Lib.hid hJ; have HY := Lib.hid hY; have HT := Lib.hid ht; have HWF := Lib.hid hV; have H0 := Lib.hid h0
  have HSB := Lib.hid hsb; have HVB := Lib.hid hvb; have HBB := Lib.hid hb
  clear hva hJ hY ht hV h0 hsb hvb hb
  gi_wp2
  clear hs hv
  have hmx : Tryd.prog.follows .mixedOrders = true := by kernel_rfl
  gi_loopw [8] (fun iv wr => ∃ i : Nat, i ≤ t.length ∧ iv = .int .i64 i ∧ J (grow1 V (t.take i)) wr ∧ KpN bb n₀ W wr) (fun iv _ => t.length - (intOf iv).toNat)
  case atStart => exact ⟨0, Nat.zero_le _, rfl, H0.out, Chg.refl _ _⟩
  case round =>
    obtain ⟨i, hi, rfl, hJs, hkp⟩ := hrel
    have HJS := Lib.hid hJs; have HK := Lib.hid hkp
    clear hJs hkp
    by_cases hlt : i < t.length
    · have d0 : decide (i < t.length) = true := by simpa using hlt
      have hs := HK.out.cell_some HS.out (fun h => h.elim HSB.out.2 (fun h => Nat.not_le_of_lt HSB.out.1 h))
      have hv := HK.out.cell_some HV.out (fun h => h.elim HVB.out.2 (fun h => Nat.not_le_of_lt HVB.out.1 h))
      have hcn := HT.out _ (List.getElem_mem hlt)
      have hn6 := HWF.out.le
      have hidx := index_chr hlt (by omega)
      have hu8 := u8_chr t[i] (by omega)
      have hcell := (HVA.out.chg HK.out (fun h => h.elim HBB.out.2 (fun h => Nat.not_le_of_lt HBB.out.1 h))) t[i] hcn
      rw [← part_lt hcn] at hcell
      have hci : (t[i] : Int) < (V.length : Int) := by omega
      have HP := Lib.hid (HWF.out.part_le t[i])
      have HG := Lib.hid (grow1_take V t hlt)
      have HLE := Lib.hid (fun k => grow1_le V t (k := k) hlt)
      obtain ⟨c, hc⟩ : ∃ c, t[i] = c := ⟨_, rfl⟩
      rw [hc] at hcn hu8 hcell hci HP HG
      simp only [hc] at hidx HLE
      obtain ⟨C, hC⟩ : ∃ C, 97 + c = C := ⟨_, rfl⟩
      rw [hC] at hu8
      simp only [hC] at hidx
      obtain ⟨p, hp⟩ : ∃ p, part V c = p := ⟨_, rfl⟩
      rw [hp] at hcell HP HG
      simp only [hp] at HLE
      have hpz := str_size p
      have hp8 : p.length ≤ 8 := HP.out.1
      have HTI := Lib.hid (show part V t[i] = p by rw [hc]; exact hp)
      have HTJ := Lib.hid hc
      clear hc hC hp
      gi_wp2
      gi_quiet (fail)
      have HJ1 := Lib.hid (HJ.out _ _ nq HJS.out); have HK1 := Lib.hid (HK.out.drewN nq)
      clear hs hv hcell hidx hu8
      generalize wr.drewN nq = W1 at HJ1 HK1 ⊢
      clear HJS HK
      gi_wp2
      gi_loopw [19] (fun kv wr => ∃ k : Nat, k ≤ p.length ∧ kv = .int .i64 k ∧ J (grow1 V (t.take i) ++ p.take k) wr ∧ KpN bb n₀ W wr) (fun kv _ => p.length - (intOf kv).toNat)
      case atStart => exact ⟨0, Nat.zero_le _, rfl, by rw [List.take_zero, List.append_nil]; exact HJ1.out, HK1.out⟩
      case round =>
        clear HJ1 HK1
        obtain ⟨k, hk, rfl, hJs, hkp⟩ := hrel
        have HJS := Lib.hid hJs; have HK := Lib.hid hkp
        clear hJs hkp
        by_cases hkl : k < p.length
        · have d1 : decide (k < p.length) = true := by simpa using hkl
          have hs := HK.out.cell_some HS.out (fun h => h.elim HSB.out.2 (fun h => Nat.not_le_of_lt HSB.out.1 h))
          have hv := HK.out.cell_some HV.out (fun h => h.elim HVB.out.2 (fun h => Nat.not_le_of_lt HVB.out.1 h))
          have hidx := index_chr hlt (by have := HT.out _ (List.getElem_mem hlt); have := HWF.out.le; omega)
          have hx := HP.out.2 _ (List.getElem_mem hkl)
          have hidx2 := index_chr hkl (by omega)
          have HJ2 : J (grow1 V (t.take i) ++ p.take k) wr.drew := HJ.out _ _ 1 HJS.out
          obtain ⟨fn, tmps, assign, body, hy, hR⟩ := HY.out _ p[k] _ HJ2 (HLE.out k hkl)
          have HTK := Lib.hid (show p.take (k + 1) = p.take k ++ [p[k]] from List.take_succ_eq_append_getElem hkl)
          have hu8 := u8_chr t[i] (by have := HT.out _ (List.getElem_mem hlt); have := HWF.out.le; omega)
          have hcell := (HVA.out.chg HK.out (fun h => h.elim HBB.out.2 (fun h => Nat.not_le_of_lt HBB.out.1 h))) t[i] (HT.out _ (List.getElem_mem hlt))
          rw [← part_lt (HT.out _ (List.getElem_mem hlt)), HTI.out] at hcell
          rw [HTJ.out] at hu8
          simp only [HTJ.out] at hidx hcell
          obtain ⟨C, hC⟩ : ∃ C, 97 + c = C := ⟨_, rfl⟩
          rw [hC] at hu8
          simp only [hC] at hidx
          obtain ⟨x, hxx⟩ : ∃ x, p[k] = x := ⟨_, rfl⟩
          rw [hxx] at hx HTK
          simp only [hxx] at hidx2 hy hR
          obtain ⟨D, hD⟩ : ∃ D, 97 + x = D := ⟨_, rfl⟩
          simp only [hD] at hidx2 hy
          clear hC hxx hD HJ2
          have hR2 := hR.mono (R' := fun e W' => ∃ r : Bool, e = .returned (.bool r) ∧ Rd (grow1 V (t.take i) ++ p.take k ++ [x]) J Jx bb n₀ wr.drew W' r) (by
            rintro e W' (⟨he, h1, h2⟩ | ⟨he, h1⟩)
            · exact ⟨true, he, .inl ⟨rfl, h1, h2⟩⟩
            · exact ⟨false, he, .inr ⟨rfl, h1⟩⟩)
          clear hR
          gi_wp2
          gi_region_with_o (refine hR2.mono ?_; rintro e W3 ⟨r, rfl, hrd⟩)
          all_goals
            clear hs hv hcell hidx hidx2 hu8 hy hR2
            rcases hrd with ⟨rfl, hJ3, hk3⟩ | ⟨rfl, hx3⟩
            · have HJ3 := Lib.hid hJ3; have HK3 := Lib.hid (KpN.trans (HK.out.drew) hk3)
              clear hJ3 hk3
              gi_wp2
              go_roundw
              case rel => exact ⟨k + 1, by omega, by go_num, by rw [HTK.out, ← List.append_assoc]; exact HJ3.out, HK3.out⟩
              case measure => simp [intOf]; omega
            · gi_wp2
              refine bodyPost_ret (results_none rfl _ _ _) rfl ?_
              exact ⟨⟨_, rfl⟩, .inr ⟨_, trivial, hx3⟩⟩
        · obtain rfl : k = p.length := by omega
          have hj := HJS.out
          rw [List.take_length, ← HG.out] at hj
          have HJ4 := Lib.hid hj
          clear hj
          gi_wp2
          go_roundw
          case rel => exact ⟨i + 1, by omega, by go_num, HJ4.out, HK.out⟩
          case measure => simp [intOf]; omega
    · obtain rfl : i = t.length := by omega
      have hj := HJS.out
      rw [List.take_length] at hj
      gi_wp2
      go_end0
      exact ⟨⟨_, rfl⟩, .inl ⟨_, rfl, hj⟩⟩
end Go.Proofs.YtilacamhjibneaaDoor

/- A shoot a year later: next. Its conditions are its premises. -/
namespace Go.Proofs.YtilacamhjibneaaDoor
open Go.RowKit Go.Shelf
attribute [local go_sem] Oper.semAt_some

theorem owns_base {w : World} {b b' : Nat} {e : TypeId} {sz : Nat} {v : Value} {n : Nat} {xs : List Value} (h : w.ownsRow b e sz v n xs) (hb : b' ≤ b) : w.ownsRow b' e sz v n xs := by
  refine ⟨h.1, ?_⟩
  rcases h.2 with hn | ⟨g, cap, cur, rfl, hbg, rest⟩
  · exact .inl hn
  · exact .inr ⟨g, cap, cur, rfl, Nat.le_trans hb hbg, rest⟩
theorem owns_block {w : World} {b : Nat} {e : TypeId} {sz : Nat} {v : Value} {n : Nat} {xs : List Value} (h : w.ownsRow b e sz v n xs) {k : Nat} (hk : v.ownBlock = some k) : ∃ o : Obj, w.heap[k]? = some o ∧ o.isCells = true := by
  rcases h.2 with ⟨rfl, _⟩ | ⟨g, cap, cur, rfl, hbg, hg, _⟩
  · cases hk
  · cases hk
    exact ⟨_, hg, rfl⟩

/-- A builder in block bb, whose bytes lie from block n₀ on. -/
def Bld (bb n₀ : Nat) (bs : List Value) (w : World) : Prop :=
  bb < n₀ ∧ ∃ p v, w.heap[bb]? = some (.cells #[p, v] 106 (0, 0)) ∧ (p = .pointer none ∨ p = .pointer (some ⟨bb, 0, none⟩)) ∧ w.ownsRow n₀ 5 1 v bs.length bs
theorem Bld.at_ {bb n₀ : Nat} {bs : List Value} {w : World} (h : Bld bb n₀ bs w) : Lib.IsBuilder 106 5 bb bb bs w := by
  obtain ⟨hlt, p, v, hb, hp, ho⟩ := h
  have hB : Lib.BuilderAt 106 5 bb bb p bs w := ⟨Nat.le_refl _, v, hb, owns_base ho (by omega), fun e => by have := (ho.lt _ e).1; omega⟩
  rcases hp with rfl | rfl
  · exact .inl hB
  · exact .inr hB
theorem Bld.kept {bb n₀ : Nat} {bs : List Value} {w w' : World} {row : Option Nat} (h : Bld bb n₀ bs w) (hg : w.grownBy w' row) (hr : ∀ r, row = some r → ∃ o : Obj, w.heap[r]? = some o ∧ o.isCells = false) : Bld bb n₀ bs w' := by
  obtain ⟨hlt, p, v, hb, hp, ho⟩ := h
  have hbl : bb < w.heap.size := (Array.getElem?_eq_some_iff.1 hb).1
  refine ⟨hlt, p, v, ?_, hp, ho.kept hg ?_⟩
  · rw [hg.block bb hbl (fun e => by
      obtain ⟨o, h1, h2⟩ := hr _ e.symm
      rw [hb] at h1
      cases h1
      cases h2)]
    exact hb
  · cases hk : v.ownBlock with
    | none => exact .inl rfl
    | some k =>
      refine .inr (fun e => ?_)
      obtain ⟨o, h1, h2⟩ := owns_block ho hk
      obtain ⟨o', h1', h2'⟩ := hr _ e.symm
      rw [h1] at h1'
      cases h1'
      rw [h2] at h2'
      cases h2'

theorem check2 (bb n₀ : Nat) (bs : List Value) (w : World) (h : Bld bb n₀ bs w) : Calls Tryd.prog 101 #[.pointer (some ⟨bb, 0, none⟩)] w fun e w' => e = .returned (.tuple #[]) ∧
    (∃ v, w'.heap[bb]? = some (.cells #[.pointer (some ⟨bb, 0, none⟩), v] 106 (0, 0)) ∧ w'.ownsRow n₀ 5 1 v bs.length bs) ∧ Chg (fun k => k = bb) w w' ∧ KeepsOthers w w' := by
  obtain ⟨hlt, p, v, hb, hp, ho⟩ := h
  have hB : Lib.BuilderAt 106 5 bb bb p bs w := ⟨Nat.le_refl _, v, hb, owns_base ho (by omega), fun e => by have := (ho.lt _ e).1; omega⟩
  rcases hp with rfl | rfl
  · refine (check_fresh bb w hB.cell0 hB.shape hB.frozen0).mono ?_
    rintro e w' ⟨rfl, rfl⟩
    have hc : Chg (fun k => k = bb) w (w.setCell ⟨bb, 0, none⟩ (.pointer (some ⟨bb, 0, none⟩))) := (Chg.refl (fun k => k = bb) w).setCell (a := ⟨bb, 0, none⟩) (.inl rfl) _
    refine ⟨rfl, ⟨v, ?_, owns_keep ho hc (fun k hk => by have := (ho.lt _ hk).1; omega)⟩, hc, KeepsOthers.setCell _ _ _⟩
    simp [World.setCell, Array.getElem?_modify, hb]
  · refine (check_used bb w hB.cell0).mono ?_
    rintro e w' ⟨rfl, rfl⟩
    exact ⟨rfl, ⟨v, hb, ho⟩, Chg.refl _ _, KeepsOthers.refl _⟩

set_option maxHeartbeats 1000000 in
set_option maxRecDepth 100000 in
theorem byte2_any (bb n₀ : Nat) (bs : List Value) (c : Int) (w : World) (h : Bld bb n₀ bs w) (hlen : bs.length + 1 ≤ 140737488355328) (hBw : n₀ ≤ w.heap.size) :
    Calls Tryd.prog 95 #[.pointer (some ⟨bb, 0, none⟩), .int .u8 c] w fun e w' => e = .returned .nilIface ∧ Bld bb n₀ (bs ++ [.int .u8 c]) w' ∧ KpN bb n₀ w w' ∧ KeepsOthers w w' := by
  obtain ⟨i0, hi, hz0, hz1, hz2⟩ := info_parts infoByte
  have hlt0 := h.1
  go_enter Tryd.func95, Tryd.ntmps95
  go_wp2_with (go_at_call 101; refine (check2 bb n₀ bs _ h).mono ?_)
  rintro e w1 ⟨rfl, ⟨v, hbk, hown⟩, hc1, hk1⟩
  have c0 : w1.cell? ⟨bb, 0, none⟩ = some (.pointer (some ⟨bb, 0, none⟩)) := by rw [Lib.cell_of_heap hbk]; rfl
  have c1 : w1.cell? ⟨bb, 1, none⟩ = some v := by rw [Lib.cell_of_heap hbk]; rfl
  have HB1 := Lib.hid hc1.size
  go_wp2_with (at_builtin; refine wpList_append_own _ rfl _ _ 52 rfl n₀ 5 i0 (.int .u8 0) 1 1 Tryd.underlying52 hi hz0 hz1 hz2 rfl (by decide) _ _ _ rfl (hown.alloc _) ⟨w1.heap.size, 0, none⟩ 1 1 [.int .u8 c] rfl rfl (by
    intro j u hj
    match j, hj with
    | 0, hj => simp at hj; subst hj; simp [Addr.add]) (by intro u hu; simp at hu; subst hu; rfl) (by unfold maxLen; omega) (by omega) (by have := HB1.out; simp; omega) ?_)
  intro v' w2 hown' hgrow _
  have hlt : bb < w1.heap.size := (Array.getElem?_eq_some_iff.1 hbk).1
  have hne : ∀ k, v.ownBlock = some k → n₀ ≤ k := fun k hk => (hown.lt _ hk).1
  have hb2 : w2.heap[bb]? = some (.cells #[.pointer (some ⟨bb, 0, none⟩), v] 106 (0, 0)) := by
    rw [hgrow.block bb (by simp; omega) (fun e => by have := hne bb e.symm; omega), Lib.alloc_old w1 _ bb hlt]
    exact hbk
  have d0 : w2.cell? ⟨bb, 0, none⟩ = some (.pointer (some ⟨bb, 0, none⟩)) := by rw [Lib.cell_of_heap hb2]; rfl
  have d1 : w2.cell? ⟨bb, 1, none⟩ = some v := by rw [Lib.cell_of_heap hb2]; rfl
  have f1 : w2.frozen? ⟨bb, 1, none⟩ = false := Lib.frozen_of_heap hb2 1
  have hne' : ∀ k, v'.ownBlock = some k → n₀ ≤ k := fun k hk => (hown'.lt _ hk).1
  obtain ⟨g, cap, rfl⟩ : ∃ g cap, v' = .slice (some ⟨g, 0, none⟩) (bs.length + 1) cap := by
    rcases hown'.2 with ⟨_, h0⟩ | ⟨g, cap, cur, hv, _⟩
    · omega
    · exact ⟨g, cap, hv⟩
  have HC2 : Hid (KpN bb n₀ w w2) := Lib.hid (((hc1.mono (fun _ h => .inl h)).alloc (.cells #[.int .u8 c] 5)).trans (Chg.of_grownRow hgrow) (fun k hk => .inl (.inr (hne k hk.symm))))
  have HK2 : Hid (KeepsOthers w w2) := Lib.hid ((hk1.trans (KeepsOthers.alloc _ (.cells #[.int .u8 c] 5))).trans (KeepsOthers.of_grownBy hgrow (fun j o hj ho => by
    obtain ⟨o', h1, h2⟩ := owns_block (hown.alloc (.cells #[.int .u8 c] 5)) hj
    rw [ho] at h1
    cases h1
    exact h2)))
  go_wp2
  go_ret
  refine ⟨rfl, ?_, ?_, ?_⟩
  · refine ⟨hlt0, .pointer (some ⟨bb, 0, none⟩), .slice (some ⟨g, 0, none⟩) (bs.length + 1) cap, ?_, .inr rfl, ?_⟩
    · simp [World.setCell, Array.getElem?_modify, hb2]
    · have := owns_keep (S := fun k => k = bb) hown' ((Chg.refl (fun k => k = bb) w2).setCell (a := ⟨bb, 1, none⟩) (.inl rfl) (.slice (some ⟨g, 0, none⟩) (bs.length + 1) cap)) (fun k hk => by have := hne' k hk; omega)
      simpa using this
  · exact HC2.out.setCell (a := ⟨bb, 1, none⟩) (.inl (.inl rfl)) _
  · exact HK2.out.trans (KeepsOthers.setCell _ _ _)

theorem grown_any (ao : Option Addr) (n cap : Nat) (s : ByteArray) (w : World) : Calls Tryd.prog 97 #[.slice ao n cap, .string s] w fun e w' =>
    e = .returned (.func (.func 104) #[] #[.pointer (some ⟨w.heap.size + 1, 0, none⟩), .pointer (some ⟨w.heap.size, 0, none⟩)]) ∧ w' = (w.alloc (.cells #[.slice ao n cap] 59)).alloc (.cells #[.string s] 9) := by
  go_enter Tryd.func97, Tryd.ntmps97
  go_wp2_with fail
  go_ret
  exact ⟨rfl, rfl⟩
end Go.Proofs.YtilacamhjibneaaDoor

/- A shoot a year later, walked. Its conditions are its premises. -/
namespace Go.Proofs.YtilacamhjibneaaDoor
open Go.RowKit Go.Shelf
attribute [local go_sem] Oper.semAt_some

def bcell (c : Nat) : Value := .int .u8 ((97 + c : Nat) : Int)
theorem bcells_eq (l : List Nat) (h : ∀ c ∈ l, c < 100) : l.map bcell = Lib.byteCells (l.map chr) := by
  unfold Lib.byteCells
  rw [List.map_map]
  refine List.map_congr_left (fun c hc => ?_)
  have := h c hc
  unfold bcell chr
  simp
  omega
theorem grow1_lt {V : List (List Nat)} (hV : WF V) (t : List Nat) : ∀ c ∈ grow1 V t, c < V.length := by
  intro c hc
  obtain ⟨x, _, hx⟩ := List.mem_flatMap.1 hc
  exact (hV.part_le x).2 c hx
theorem grow1_len {V : List (List Nat)} (hV : WF V) (t : List Nat) : (grow1 V t).length ≤ 8 * t.length := by
  unfold grow1
  induction t with
  | nil => simp
  | cons c t ih =>
    rw [List.flatMap_cons, List.length_append, List.length_cons]
    have := (hV.part_le c).1
    omega

set_option maxRecDepth 100000 in
set_option maxHeartbeats 2000000 in
theorem next_any (V : List (List Nat)) (hV : WF V) (t : List Nat) (ht : ∀ c ∈ t, c < V.length) (hl : t.length ≤ 200000) (b off cap : Nat) (w : World) (hv : VAt w b off V) :
    Calls Tryd.prog 72 #[.slice (some ⟨b, off, none⟩) V.length cap, .string (str t)] w fun e w' => e = .returned (.string (str (grow1 V t))) ∧ Below w.heap.size w w' := by
  refine (callsIn_wide (n := 5)).1 ?_
  refine callsIn_of_wp_marks Tryd.func72 rfl trivial ?_ rfl
  simp only [Tryd.ntmps72, List.size_toArray, List.length_cons, List.length_nil, Nat.reduceAdd, Nat.reduceSub, Array.replicate_succ, Array.replicate_zero, List.push_toArray, List.append_toArray, List.nil_append, List.cons_append]
  gi_wp2
  refine ⟨trivial, (callsIn_wide.2 (grown_any _ _ _ _ _)).mono ?_⟩
  rintro e w' ⟨rfl, rfl⟩
  gi_wp2
  obtain ⟨bb, hbb⟩ : ∃ bb, w.heap.size = bb := ⟨_, rfl⟩
  have hv1 := vat_lt hv hV.pos
  have HW0 := Lib.hid (show Bld bb (bb + 3) [] (((w.alloc (.cells #[.pointer none, .slice none 0 0] 106)).alloc (.cells #[.slice (some ⟨b, off, none⟩) V.length cap] 59)).alloc (.cells #[.string (str t)] 9)) from by
    refine ⟨by omega, .pointer none, .slice none 0 0, ?_, .inl rfl, World.ownsRow_nil _ _ _ _⟩
    rw [Below.heap_alloc _ _ _ (by simp; omega), Below.heap_alloc _ _ _ (by simp; omega), ← hbb]
    exact World.alloc_heap_new w _)
  have HC0 := Lib.hid ((((Chg.refl (fun _ => False) w).alloc (.cells #[.pointer none, .slice none 0 0] 106)).alloc (.cells #[.slice (some ⟨b, off, none⟩) V.length cap] 59)).alloc (.cells #[.string (str t)] 9))
  have k1 := (Blk.new (w.alloc (.cells #[.pointer none, .slice none 0 0] 106)) #[.slice (some ⟨b, off, none⟩) V.length cap] 59)
  have HK1 := Lib.hid ((k1.alloc (.cells #[.string (str t)] 9)).cell_some (i := 0) rfl)
  have HK2 := Lib.hid ((Blk.new ((w.alloc (.cells #[.pointer none, .slice none 0 0] 106)).alloc (.cells #[.slice (some ⟨b, off, none⟩) V.length cap] 59)) #[.string (str t)] 9).cell_some (i := 0) rfl)
  have HSZ := Lib.hid (show (((w.alloc (.cells #[.pointer none, .slice none 0 0] 106)).alloc (.cells #[.slice (some ⟨b, off, none⟩) V.length cap] 59)).alloc (.cells #[.string (str t)] 9)).heap.size = bb + 3 by simp; omega)
  rw [World.size_alloc, hbb] at HK1
  rw [World.size_alloc, World.size_alloc, hbb] at HK2
  clear k1
  generalize ((w.alloc (.cells #[.pointer none, .slice none 0 0] 106)).alloc (.cells #[.slice (some ⟨b, off, none⟩) V.length cap] 59)).alloc (.cells #[.string (str t)] 9) = W0 at HW0 HC0 HK1 HK2 HSZ ⊢
  rw [hbb]
  have HBB := Lib.hid hbb
  have hbl : b < bb := by omega
  clear hbb hv1
  refine wpIn_rangeFunc_ownG rfl (by omega) (gf := 104) (lb := #[.pointer (some ⟨bb + 1 + 1, 0, none⟩), .pointer (some ⟨bb + 1, 0, none⟩)]) rfl trivial (enters_of Tryd.func104 (by kernel_rfl) rfl)
    (encs := fun c : Nat => #[bcell c]) (Kp := KpN bb (bb + 3)) (S := fun ys => ys = grow1 V t) (Sp := fun _ => True) (N := (grow1 V t).length) (w0 := W0)
    (fun l J Jx W hW hJ hJx hY h0 => grown1_in (5 - 1) (by omega) l bb (bb + 3) (bb + 1 + 1) (bb + 1) b off cap V hV t ht hl ⟨by omega, by omega⟩ ⟨by omega, by omega⟩ ⟨by omega, by omega⟩ J Jx hY W
      ((hW.cell (p := ⟨bb + 1 + 1, 0, none⟩) (by rw [HSZ.out]; show bb + 1 + 1 < bb + 3; omega)).trans HK2.out) ((hW.cell (p := ⟨bb + 1, 0, none⟩) (by rw [HSZ.out]; show bb + 1 < bb + 3; omega)).trans HK1.out)
      (fun k hk => (hW.cell (p := ⟨b, off + k, none⟩) (by rw [HSZ.out]; show b < bb + 3; omega)).trans (HC0.out.cell_some (hv k hk) (fun x => x)))
      (by rw [← HSZ.out]; exact hW.size) (fun s A k hs => hJ s A (A.drewN k) none hs ⟨rfl, rfl, rfl, Nat.le_refl _, fun _ _ _ => rfl⟩ (fun r e => by cases e)) h0)
    (fun h k => KpN.trans h k) (fun W l o o' hl0 _ _ _ => (Chg.of_grownRow (grownBy_putObj' W l o')).mono (fun k hk => .inr (by cases hk; rw [← HSZ.out]; exact hl0))) (Below.refl _ _) (fun _ => rfl)
    (fun pre W => (Bld bb (bb + 3) (pre.map bcell) W ∧ bb + 3 ≤ W.heap.size) ∧ Below bb w W) (fun _ _ _ => False)
    (OwnFrom.and (Own.from (fun s A B row hs hg hr => ⟨hs.1.kept hg hr, Nat.le_trans hs.2 hg.size⟩) _) (ownFrom_below (by rw [HBB.out]; exact Nat.le_refl _) (by rw [HSZ.out]; omega)))
    (fun _ _ _ _ _ hs _ _ => hs)
    ⟨⟨HW0.out, by rw [HSZ.out]; exact Nat.le_refl _⟩, by have := HC0.out.below; rw [HBB.out] at this; exact this⟩
    (fun x => { tmps := #[.slice (some ⟨b, off, none⟩) V.length cap, .string (str t), undef, undef, .string ⟨#[]⟩, .pointer (some ⟨bb, 0, none⟩), bcell x, .slice (some ⟨b, off, none⟩) V.length cap, .string (str t), .func (.func 104) #[] #[.pointer (some ⟨bb + 1 + 1, 0, none⟩), .pointer (some ⟨bb + 1, 0, none⟩)], bcell x, undef, undef, undef], defers := [] }) ?assign ?body ?done ?stop
  case assign =>
    intro l x W K hK
    gi_wp2
    exact hK
  case body =>
    rintro l pre x W ⟨⟨hbld, hsz⟩, hbel⟩ hlen
    have hg8 := grow1_len hV t
    gi_wp2
    refine ⟨trivial, (CallsIn.inRound l (callsIn_wide.2 (byte2_any bb (bb + 3) (pre.map bcell) ((97 + x : Nat) : Int) W hbld (by rw [List.length_map]; omega) hsz))).mono ?_⟩
    rintro e W' ⟨rfl, h1, h2, h3⟩
    have HPO : Hid (KeepsFrom W0.heap.size W W' ∧ KpN bb (bb + 3) W W' ∧ ((Bld bb (bb + 3) ((pre ++ [x]).map bcell) W' ∧ bb + 3 ≤ W'.heap.size) ∧ Below bb w W')) := Lib.hid
      ⟨h3.from _, h2, ⟨by rw [List.map_append]; exact h1, Nat.le_trans hsz h2.size⟩, hbel.trans ⟨h2.os, h2.tape, h2.output, h2.size, fun k hk => h2.block k (by omega) (by omega)⟩⟩
    clear h1 h2 h3 hbld hbel
    gi_wp2
    exact HPO.out
  case done =>
    rintro D ys W hD rfl ⟨⟨hbld, hsz⟩, hbel⟩ hK
    have hbf : Lib.IsBuilderF 106 5 bb bb (Lib.byteCells ((grow1 V t).map chr)) W := by
      rw [← bcells_eq _ (fun c hc => by have := grow1_lt hV t c hc; have := hV.le; omega)]
      exact hbld.at_.elim (fun h => .inl (Lib.BuilderAtF.of h)) (fun h => .inr (Lib.BuilderAtF.of h))
    gi_wp2
    refine ⟨trivial, (callsIn_wide.2 (Tryd.Builder_String_any_k bb bb ((grow1 V t).map chr) W hbf (by omega))).mono ?_⟩
    rintro e W' ⟨rfl, _, h2, h3⟩
    have hK' : W'.heap[D]? = some (.deferred (some [])) := h3 D _ hK (by intro h; cases h; have := HSZ.out; omega) (fun c fz h => by cases h)
    have HBW := Lib.hid (hbel.trans h2)
    clear h2 h3 hbld hbel hK hbf
    gi_wp2
    refine ⟨by simp, .inl ⟨_, _, rfl, run_takeDeferred hK', ?_⟩⟩
    refine ⟨_, results_tmp rfl _ _ _, rfl, ?_⟩
    have hb := HBW.out.trans (belowK_b (w := W0) (n₀ := bb) (by rw [HSZ.out]; omega) W' D _ (.deferred none) hD hK' rfl rfl)
    rw [← HBB.out] at hb
    exact hb
  case stop =>
    rintro D c pre W _ _ h _
    exact h.elim
end Go.Proofs.YtilacamhjibneaaDoor

/- The function literal of Grow; strings.Map where no letter is left out. Their conditions are their premises. -/
namespace Go.Proofs.YtilacamhjibneaaDoor
open Go.RowKit

theorem i32_sub (c : Nat) (hc : c < 100) : IntKind.i32.wrap (((97 + c : Nat) : Int) - 97) = (c : Int) := by
  simp [IntKind.wrap, IntKind.bits, IntKind.signed]
  omega

def livR (L : List Bool) (c : Nat) : Int := if atB L c = true then ((97 + c : Nat) : Int) else -1
set_option maxRecDepth 100000 in
set_option maxHeartbeats 400000 in
theorem lives_any (L : List Bool) (c fb g cap : Nat) (w : World) (hc : c < L.length) (hL : L.length ≤ 50) (hf : w.cell? ⟨fb, 0, none⟩ = some (.slice (some ⟨g, 0, none⟩) L.length cap)) (hb : BoolsAt w g 0 L) :
    Calls Tryd.prog 71 #[.int .i32 ((97 + c : Nat) : Int), .pointer (some ⟨fb, 0, none⟩)] w fun e w' => e = .returned (.int .i32 (livR L c)) ∧ w' = w := by
  have hs := i32_sub c (by omega)
  have c0 := bools_at hb hc
  rw [Nat.zero_add] at c0
  have hci : (c : Int) < (L.length : Int) := by omega
  have HR := Lib.hid (show livR L c = if atB L c = true then ((97 + c : Nat) : Int) else -1 from rfl)
  obtain ⟨C, hC⟩ : ∃ C, 97 + c = C := ⟨_, rfl⟩
  rw [hC] at hs HR ⊢
  clear hC
  obtain ⟨x, hx⟩ : ∃ x, atB L c = x := ⟨_, rfl⟩
  rw [hx] at c0 HR
  clear hx
  cases x with
  | true =>
    go_enter Tryd.func71, Tryd.ntmps71
    go_wp2_with fail
    go_ret
    exact ⟨by rw [HR.out]; rfl, rfl⟩
  | false =>
    go_enter Tryd.func71, Tryd.ntmps71
    go_wp2_with fail
    go_ret
    exact ⟨by rw [HR.out]; rfl, rfl⟩

theorem next_chr {P : Program} (w : World) (k : Nat) (t : List Nat) {p : Nat} (ty : TypeId) (hk : w.heap[k]? = some (.stringIter (str t) p)) (h : p < t.length) (hc : t[p] < 31) :
    (Instr.next (.pointer (some ⟨k, 0, none⟩)) true ty).run P w = .ok (.tuple #[.bool true, .int .i64 p, .int .i32 ((97 + t[p] : Nat) : Int)]) (w.iterAt k (str t) (p + 1)) := by
  have hb := str_byte h (by omega)
  have h' : p < (str t).size := by rw [str_size]; exact h
  have hv : ((str t)[p]'h').toNat = 97 + t[p] := by
    rw [← hb]
    unfold byteAt
    rw [List.getElem?_eq_getElem (by simpa using h')]
    simp [ByteArray.getElem_eq_getElem_data]
  rw [Lib.run_next_ascii_at w k (str t) p ty hk h' (by rw [hv]; omega), hv]

set_option maxRecDepth 100000 in
set_option maxHeartbeats 1000000 in
theorem map_same (L : List Bool) (t : List Nat) (fb g cap : Nat) (w : World) (ht : ∀ c ∈ t, c < L.length) (hL : L.length ≤ 30) (hl : t.length ≤ 1000000) (hal : ∀ c ∈ t, atB L c = true)
    (hf : w.cell? ⟨fb, 0, none⟩ = some (.slice (some ⟨g, 0, none⟩) L.length cap)) (hb : BoolsAt w g 0 L) :
    Calls Tryd.prog 70 #[.func (.func 71) #[] #[.pointer (some ⟨fb, 0, none⟩)], .string (str t)] w fun e w' => e = .returned (.string (str t)) ∧ Below w.heap.size w w' := by
  have HT := Lib.hid ht; have HAL := Lib.hid hal; have HF := Lib.hid hf; have HB := Lib.hid hb
  have hfl := World.cell_lt hf
  have hgl : t.length = 0 ∨ g < w.heap.size := by
    cases t with
    | nil => exact .inl rfl
    | cons c t => exact .inr (World.cell_lt (hb 0 (by have := ht c (by simp); omega)))
  have HGL := Lib.hid hgl
  clear ht hal hf hb hgl
  go_enter Tryd.func70, Tryd.ntmps70
  go_wp2_with fail
  have HI0 := Lib.hid (World.iter_heap (w.alloc (.cells #[.pointer none, .slice none 0 0] 106)) (str t) 0)
  have HD0 : Hid (((w.alloc (.cells #[.pointer none, .slice none 0 0] 106)).iter (str t) 0).heap[w.heap.size]? = some (.cells #[.pointer none, .slice none 0 0] 106)) := Lib.hid ((Below.heap_alloc _ _ _ (by simp)).trans (World.alloc_heap_new w _))
  have HB0 : Hid (Below w.heap.size w ((w.alloc (.cells #[.pointer none, .slice none 0 0] 106)).iter (str t) 0)) := Lib.hid (((Below.refl _ w).alloc (Nat.le_refl _) _).alloc (by simp) _)
  rw [World.size_alloc] at HI0
  obtain ⟨B, hB⟩ : ∃ B, w.heap.size = B := ⟨_, rfl⟩
  rw [hB] at HI0 HD0 HB0 hfl HGL ⊢
  have HBE := Lib.hid hB
  clear hB
  generalize (w.alloc (.cells #[.pointer none, .slice none 0 0] 106)).iter (str t) 0 = W0 at HI0 HD0 HB0 ⊢
  go_loopg [1] t.length (fun gm sv wx => ∃ p : Nat, p ≤ t.length ∧ gm = t.length - p ∧ sv = .string (str t) ∧ wx.heap[B + 1]? = some (.stringIter (str t) p) ∧ wx.heap[B]? = some (.cells #[.pointer none, .slice none 0 0] 106) ∧ Below B w wx)
  case atStart => exact ⟨0, by omega, by omega, rfl, HI0.out, HD0.out, HB0.out⟩
  case round =>
    clear HI0 HD0 HB0
    obtain ⟨p, hp, rfl, rfl, hit, hbd, hbw⟩ := hrel
    have HIT := Lib.hid hit; have HBD := Lib.hid hbd; have HBW := Lib.hid hbw
    clear hit hbd hbw
    by_cases hlt : p < t.length
    · have hcn := HT.out _ (List.getElem_mem hlt)
      have hla := HAL.out _ (List.getElem_mem hlt)
      have hnx : ∀ ty, (Instr.next (.pointer (some ⟨B + 1, 0, none⟩)) true ty).run Tryd.prog wr = _ := fun ty => next_chr wr (B + 1) t ty HIT.out hlt (by omega)
      have HI2 := Lib.hid (Lib.iterAt_heap wr (B + 1) (str t) p (p + 1) HIT.out)
      have HB2 := Lib.hid (Lib.below_iterAt HBW.out (k := B + 1) (by omega) (str t) (p + 1))
      have HD2 := Lib.hid ((Lib.iterAt_other wr (B + 1) B (str t) (p + 1) (by omega)).trans HBD.out)
      have HLV : Hid (livR L t[p] = ((97 + t[p] : Nat) : Int)) := Lib.hid (by unfold livR; rw [if_pos hla])
      have HCC := Lib.hid (lives_any L t[p] fb g cap (wr.iterAt (B + 1) (str t) (p + 1)) hcn (by omega) ((HB2.out.cell (p := ⟨fb, 0, none⟩) hfl).trans HF.out)
        (fun k hk => (HB2.out.cell (p := ⟨g, 0 + k, none⟩) (show g < B by have := HGL.out; omega)).trans (HB.out k hk)))
      rw [HLV.out] at HCC
      generalize wr.iterAt (B + 1) (str t) (p + 1) = W2 at hnx HI2 HB2 HD2 HCC
      obtain ⟨C, hC⟩ : ∃ C, 97 + t[p] = C := ⟨_, rfl⟩
      have hC128 : C < 128 := by omega
      rw [hC] at hnx HCC
      have hCn : ((C : Int) != 65533) = true := by rw [bne_iff_ne]; omega
      clear hC hla HLV
      go_wp2_with fail
      refine HCC.out.mono ?_
      rintro e W3 ⟨rfl, rfl⟩
      clear hnx
      go_wp2_with fail
      go_roundg (t.length - (p + 1))
      case measure => omega
      case rel => exact ⟨p + 1, by omega, rfl, rfl, HI2.out, HD2.out, HB2.out⟩
    · obtain rfl : p = t.length := by omega
      have hnx : ∀ ty, (Instr.next (.pointer (some ⟨B + 1, 0, none⟩)) true ty).run Tryd.prog wr = _ := fun ty => Lib.run_next_end_at wr (B + 1) (str t) t.length ty HIT.out (by rw [str_size]; omega)
      have HCP := Lib.hid (Tryd.Builder_Cap_cell B none 0 0 wr (by rw [Lib.cell_of_heap HBD.out]; rfl))
      go_wp2_with fail
      refine HCP.out.mono ?_
      rintro e W3 ⟨rfl, rfl⟩
      clear hnx
      go_wp2_with fail
      go_ret
      exact ⟨rfl, by rw [HBE.out]; exact HBW.out⟩
end Go.Proofs.YtilacamhjibneaaDoor

/- Grow of a vine and a shoot without an error. Its conditions are its premises. -/
namespace Go.Proofs.YtilacamhjibneaaDoor
open Go.RowKit

theorem okT_str {n : Nat} {t : List Nat} (hn : n ≤ 50) (ht : ∀ c ∈ t, c < n) : ∀ k, k ≤ t.length → okT n (str t) k = true
  | 0, _ => rfl
  | k + 1, hk => by
    have hkl : k < t.length := by omega
    have h := ht _ (List.getElem_mem hkl)
    rw [okT, okT_str hn ht k (by omega), str_byte hkl (by omega)]
    unfold okC
    rw [decide_eq_true (by omega), decide_eq_true (by omega)]
    rfl
theorem okS_str {n : Nat} {t : List Nat} (hn : n ≤ 50) (ht : ∀ c ∈ t, c < n) : okS n (str t) = true := by
  unfold okS
  rw [str_size]
  exact okT_str hn ht _ (Nat.le_refl _)
theorem prT_str {V : List (List Nat)} (hV : WF V) : ∀ k, k ≤ V.length → prT (V.map str) k = true
  | 0, _ => rfl
  | k + 1, hk => by
    have hkl : k < V.length := by omega
    rw [prT, prT_str hV k (by omega), List.getElem?_map, List.getElem?_eq_getElem hkl]
    have h := hV.small _ (List.getElem_mem hkl)
    have h6 := hV.le
    show (true && okPart (V.map str).length (str V[k])) = true
    unfold okPart
    rw [List.length_map, okS_str (by omega) h.2, str_size, decide_eq_true h.1]
    rfl
theorem errV_ok {V : List (List Nat)} (hV : WF V) : errV (V.map str) = 0 := by
  have h6 := hV.le
  have h1 := hV.pos
  unfold errV
  rw [if_neg (by rw [List.length_map]; omega), if_pos (by have := prT_str hV V.length (Nat.le_refl _); rw [List.length_map]; exact this)]
theorem errS_ok {V : List (List Nat)} (hV : WF V) {t : List Nat} (ht : ∀ c ∈ t, c < V.length) (hl : t.length ≤ 30) : errS (V.map str) (str t) = 0 := by
  have h6 := hV.le
  unfold errS
  rw [if_neg (by rw [errV_ok hV]; simp), if_pos (by unfold okShoot; rw [List.length_map, okS_str (by omega) ht, str_size, decide_eq_true hl]; rfl)]

theorem strs_of {w : World} {b off : Nat} {V : List (List Nat)} (h : VAt w b off V) : StrsAt w b off (V.map str) := fun k hk => by
  have := h k (by simpa using hk)
  simpa using this
theorem shot_ok (V : List (List Nat)) (hV : WF V) (t : List Nat) (ht : ∀ c ∈ t, c < V.length) (hl : t.length ≤ 30) (b off cap : Nat) (w : World) (hv : VAt w b off V) :
    Calls Tryd.prog 51 #[.slice (some ⟨b, off, none⟩) V.length cap, .string (str t)] w fun e w' => e = .returned (.tuple #[.slice (some ⟨b, off, none⟩) V.length cap, .int .i64 0]) ∧ w' = w := by
  have h6 := hV.le
  have h := shot_any (V.map str) (str t) (some ⟨b, off, none⟩) cap b off w (strs_of hv) (.inr rfl) (by rw [List.length_map]; omega) (by
    intro p hp
    obtain ⟨q, hq, rfl⟩ := List.mem_map.1 hp
    rw [str_size]
    have := (hV.small q hq).1
    omega) (by rw [str_size]; omega)
  rw [List.length_map] at h
  unfold shotV at h
  rw [if_pos (errS_ok hV ht hl), List.length_map] at h
  exact h
theorem of_ok (V : List (List Nat)) (hV : WF V) (b off cap : Nat) (w : World) (hv : VAt w b off V) :
    Calls Tryd.prog 65 #[.slice (some ⟨b, off, none⟩) V.length cap] w fun e w' => e = .returned (.tuple #[.slice (some ⟨b, off, none⟩) V.length cap, .int .i64 0]) ∧ w' = w := by
  have h6 := hV.le
  have h := of_any (V.map str) (some ⟨b, off, none⟩) cap b off w (strs_of hv) (.inr rfl) (by rw [List.length_map]; omega) (by
    intro p hp
    obtain ⟨q, hq, rfl⟩ := List.mem_map.1 hp
    rw [str_size]
    have := (hV.small q hq).1
    omega)
  rw [List.length_map] at h
  unfold ofV at h
  rw [if_pos (errV_ok hV), List.length_map] at h
  exact h

/-- What strings.Map does with the letters that live. -/
def MapsAt (V : List (List Nat)) : Prop := ∀ (k : Nat) (t : List Nat) (fb g cap : Nat) (w : World), (∀ c ∈ t, c < V.length) → t.length ≤ 1000000 →
  w.cell? ⟨fb, 0, none⟩ = some (.slice (some ⟨g, 0, none⟩) V.length cap) → BoolsAt w g 0 (livV V k) →
  Calls Tryd.prog 70 #[.func (.func 71) #[] #[.pointer (some ⟨fb, 0, none⟩)], .string (str t)] w fun e w' => e = .returned (.string (str (t.filter fun c => atB (livV V k) c))) ∧ Below w.heap.size w w'
/-- What Grow computes, with so many years left. -/
def grw (V : List (List Nat)) : Nat → List Nat → List Nat
  | 0, s => s
  | y + 1, s => grw V y (grow1 V (s.filter fun c => atB (livV V (y + 1)) c))
def Fits (V : List (List Nat)) : Nat → List Nat → Prop
  | 0, s => s.length ≤ 1000000
  | y + 1, s => s.length ≤ 1000000 ∧ (s.filter fun c => atB (livV V (y + 1)) c).length ≤ 200000 ∧ Fits V y (grow1 V (s.filter fun c => atB (livV V (y + 1)) c))
def growV (V : List (List Nat)) (t : List Nat) (years : Nat) : Value := if sumV (agedF V t years) ≤ 100000 then .tuple #[.string (str (grw V years t)), .int .i64 0] else .tuple #[.string ⟨#[]⟩, .int .i64 8]

set_option maxRecDepth 100000 in
set_option maxHeartbeats 1000000 in
theorem grow_any (V : List (List Nat)) (hV : WF V) (t : List Nat) (ht : ∀ c ∈ t, c < V.length) (hl : t.length ≤ 30) (years : Nat) (hy : years ≤ 1000) (hm : MapsAt V) (hfit : sumV (agedF V t years) ≤ 100000 → Fits V years t)
    (b off cap : Nat) (w : World) (hv : VAt w b off V) :
    Calls Tryd.prog 30 #[.slice (some ⟨b, off, none⟩) V.length cap, .string (str t), .int .i64 (years : Int)] w fun e w' => e = .returned (growV V t years) ∧ Chg (fun _ => False) w w' := by
  have HS := Lib.hid (shot_ok V hV t ht hl b off cap w hv)
  have HV := Lib.hid hv; have HWF := Lib.hid hV; have HT := Lib.hid ht; have HM := Lib.hid hm; have HFIT := Lib.hid hfit
  have HCN := Lib.hid (counts_any V.length t (some ⟨b, off, none⟩) cap w (by have := hV.le; omega) ht (by omega))
  have HLE := Lib.hid (agedF_le V t (by omega)); have HLN := Lib.hid (agedF_len V t)
  have hdy : decide (0 ≤ (years : Int) ∧ (years : Int) ≤ 1000) = true := by simp; omega
  have HY := Lib.hid (yearly_any (years : Int) w)
  rw [hdy] at HY
  clear hv hV ht hm hfit hdy
  go_enter Tryd.func30, Tryd.ntmps30
  go_wp2_with fail
  refine HS.out.mono ?_
  rintro e w1 ⟨rfl, rfl⟩
  go_wp2_with fail
  refine HY.out.mono ?_
  rintro e w1 ⟨rfl, rfl⟩
  go_wp2_with fail
  refine HCN.out.mono ?_
  rintro e w2 ⟨rfl, hb2, hc2⟩
  have HB2 := Lib.hid hb2; have HC2 := Lib.hid hc2
  obtain ⟨g0, hg0⟩ : ∃ g0, w1.heap.size = g0 := ⟨_, rfl⟩
  rw [hg0] at HB2 ⊢
  clear hb2 hc2 hg0
  go_wp2_with fail
  go_loopg [32, 10] years (fun gm iv tv wr => ∃ k g : Nat, k ≤ years ∧ gm = years - k ∧ iv = .int .i64 k ∧ tv = .slice (some ⟨g, 0, none⟩) V.length V.length ∧ Blk wr g 3 (nv (agedF V t k)) ∧ Chg (fun _ => False) w1 wr)
  case atStart => exact ⟨0, g0, by omega, by omega, rfl, rfl, HB2.out, HC2.out⟩
  case round =>
    clear HB2 HC2
    obtain ⟨k, g, hk, rfl, rfl, rfl, hblk, hchg⟩ := hrel
    have HBK := Lib.hid hblk; have HC := Lib.hid hchg
    clear hblk hchg
    by_cases hlt : k < years
    · have d0 : decide ((k : Int) < (years : Int)) = true := by simp; omega
      have HA := Lib.hid (after_any V HWF.out (agedF V t k) b off cap g 0 V.length wr (HV.out.chg HC.out (fun x => x)) (nats_of_blk HBK.out) (HLN.out k) (HLE.out k))
      go_wp2_with fail
      refine HA.out.mono ?_
      rintro e w3 ⟨rfl, hb3, hc3⟩
      obtain ⟨g3, hg3⟩ : ∃ g3, wr.heap.size = g3 := ⟨_, rfl⟩
      rw [hg3] at hb3 ⊢
      have HB3 := Lib.hid hb3; have HC3 := Lib.hid (HC.out.trans hc3 (fun _ x => x.elim))
      clear hb3 hc3 hg3
      go_wp2_with fail
      go_roundg (years - (k + 1))
      case measure => omega
      case rel => exact ⟨k + 1, g3, by omega, rfl, by go_num, rfl, HB3.out, HC3.out⟩
    · obtain rfl : k = years := by omega
      have HSUM := Lib.hid (sum_any (agedF V t k) g 0 V.length wr (nats_of_blk HBK.out) (HLE.out k) (by rw [HLN.out]; have := HWF.out.le; omega))
      have hsle := sumF_le (agedF V t k) (agedF V t k).length
      rw [HLN.out k] at HSUM
      have HGV := Lib.hid (show growV V t k = if sumV (agedF V t k) ≤ 100000 then .tuple #[.string (str (grw V k t)), .int .i64 0] else .tuple #[.string ⟨#[]⟩, .int .i64 8] from rfl)
      have HF2 := Lib.hid HFIT.out
      obtain ⟨S, hS⟩ : ∃ S, sumV (agedF V t k) = S := ⟨_, rfl⟩
      rw [hS] at HSUM HGV HF2
      clear hS hsle
      go_wp2_with fail
      refine HSUM.out.mono ?_
      rintro e w3 ⟨rfl, rfl⟩
      by_cases hbig : 100000 < S
      · have d1 : decide ((100000 : Int) < (S : Int)) = true := by simp; omega
        have HR := Lib.hid (HGV.out.trans (if_neg (by omega)))
        clear hbig
        go_wp2_with fail
        go_ret2
        exact ⟨by rw [HR.out]; rfl, HC.out⟩
      · have d1 : decide ((100000 : Int) < (S : Int)) = false := by simp; omega
        have HR := Lib.hid (HGV.out.trans (if_pos (by omega)))
        have HFI := Lib.hid (HF2.out (by omega))
        clear hbig
        go_wp2_with fail
        generalize w3 = W3 at HC HSUM HBK ⊢
        go_loopg [12, 11] k (fun gm lv sv wr => ∃ (y : Nat) (s : List Nat), y ≤ k ∧ y = gm ∧ lv = .int .i64 y ∧ sv = .string (str s) ∧ (∀ c ∈ s, c < V.length) ∧ Fits V y s ∧ grw V y s = grw V k t ∧ Chg (fun _ => False) w1 wr)
        case atStart => exact ⟨k, t, Nat.le_refl _, rfl, rfl, rfl, HT.out, HFI.out, rfl, HC.out⟩
        case round =>
          clear HSUM HBK HC
          obtain ⟨y, s, hyk, rfl, rfl, rfl, hs, hf, hg, hchg⟩ := hrel
          have HSL := Lib.hid hs; have HFF := Lib.hid hf; have HGG := Lib.hid hg; have HC := Lib.hid hchg
          clear hs hf hg hchg
          cases y with
          | zero =>
            have d2 : decide ((0 : Int) < ((0 : Nat) : Int)) = false := by simp
            have HSS : Hid (s = grw V k t) := Lib.hid HGG.out
            go_wp2_with fail
            go_ret2
            exact ⟨by rw [HR.out, ← HSS.out]; rfl, HC.out⟩
          | succ y =>
            obtain ⟨Y, hY⟩ : ∃ Y, y + 1 = Y := ⟨_, rfl⟩
            have hY0 : 0 < Y := by omega
            have HYY := Lib.hid hY
            have HFF2 : Hid (s.length ≤ 1000000 ∧ (s.filter fun c => atB (livV V Y) c).length ≤ 200000 ∧ Fits V y (grow1 V (s.filter fun c => atB (livV V Y) c))) := Lib.hid (by rw [← hY]; exact HFF.out)
            have HGG2 : Hid (grw V y (grow1 V (s.filter fun c => atB (livV V Y) c)) = grw V k t) := Lib.hid (by rw [← hY]; exact HGG.out)
            rw [hY] at hyk ⊢
            clear hY HFF HGG
            have HLV := Lib.hid (living_any V HWF.out Y (by omega) b off cap wr (HV.out.chg HC.out (fun x => x)))
            go_wp2_with fail
            refine HLV.out.mono ?_
            rintro e w4 ⟨⟨g4, rfl, hg4, hb4⟩, hc4⟩
            have HB4 := Lib.hid hb4; have HC4 := Lib.hid (HC.out.trans hc4 (fun _ x => x.elim))
            clear hb4 hc4 hg4
            obtain ⟨fb, hfb⟩ : ∃ fb, w4.heap.size = fb := ⟨_, rfl⟩
            have HC5 := Lib.hid (HC4.out.alloc (.cells #[.slice (some ⟨g4, 0, none⟩) V.length V.length] 77))
            have HF5 := Lib.hid ((Blk.new w4 #[.slice (some ⟨g4, 0, none⟩) V.length V.length] 77).cell_some (i := 0) rfl)
            have HB5 := Lib.hid (HB4.out.alloc (.cells #[.slice (some ⟨g4, 0, none⟩) V.length V.length] 77))
            rw [hfb] at HF5
            go_wp2_with fail
            clear hfb
            generalize w4.alloc (.cells #[.slice (some ⟨g4, 0, none⟩) V.length V.length] 77) = W5 at HC5 HF5 HB5 ⊢
            refine (HM.out Y s fb g4 V.length W5 HSL.out HFF2.out.1 HF5.out (bools_of_blk HB5.out)).mono ?_
            rintro e w6 ⟨rfl, hbw⟩
            have HC6 := Lib.hid (HC5.out.trans (Chg.of_below (S := fun _ => False) hbw) (fun _ x => x.elim))
            have HFS : Hid (∀ c ∈ s.filter (fun c => atB (livV V Y) c), c < V.length) := Lib.hid (fun c hc => HSL.out c (List.mem_filter.1 hc).1)
            obtain ⟨u, hu⟩ : ∃ u, (s.filter fun c => atB (livV V Y) c) = u := ⟨_, rfl⟩
            rw [hu] at HFS HFF2 HGG2 ⊢
            clear hbw hu
            have HNX := Lib.hid (next_any V HWF.out u HFS.out HFF2.out.2.1 b off cap w6 (HV.out.chg HC6.out (fun x => x)))
            go_wp2_with fail
            refine HNX.out.mono ?_
            rintro e w7 ⟨rfl, hbw⟩
            have HC7 := Lib.hid (HC6.out.trans (Chg.of_below (S := fun _ => False) hbw) (fun _ x => x.elim))
            have HGL := Lib.hid (grow1_lt HWF.out u)
            clear hbw
            go_wp2_with fail
            go_roundg y
            case measure => have := HYY.out; omega
            case rel => exact ⟨y, grow1 V u, by have := HYY.out; omega, rfl, by have := HYY.out; rw [← this]; go_num, rfl, HGL.out, HFF2.out.2.2, HGG2.out, HC7.out⟩
end Go.Proofs.YtilacamhjibneaaDoor

/- Which parts come of which: the search, in plain Lean. No condition. -/
namespace Go.Proofs.YtilacamhjibneaaDoor
open Go.RowKit

/-- The first k letters of a part: those that are new are put at the end. -/
def bfsP (p : List Nat) (todo : List Nat) (R : List Bool) : Nat → List Nat × List Bool
  | 0 => (todo, R)
  | k + 1 => if atB (bfsP p todo R k).2 (at0 p k) = true then bfsP p todo R k else ((bfsP p todo R k).1 ++ [at0 p k], (bfsP p todo R k).2.set (at0 p k) true)
def bfsF (V : List (List Nat)) : Nat → List Nat → List Bool → List Bool
  | 0, _, R => R
  | _ + 1, [], R => R
  | f + 1, x :: todo, R => bfsF V f (bfsP (part V x) (x :: todo) R (part V x).length).1.tail (bfsP (part V x) (x :: todo) R (part V x).length).2
def comesR (V : List (List Nat)) (i : Nat) : List Bool := bfsF V V.length [i] ((List.replicate V.length false).set i true)
def comesM (V : List (List Nat)) : List (List Bool) := (List.range V.length).map (comesR V)
def cm (M : List (List Bool)) (i j : Nat) : Bool := atB (M[i]?.getD []) j

/-- How many are not there. -/
def nf : List Bool → Nat
  | [] => 0
  | true :: r => nf r
  | false :: r => nf r + 1
theorem nf_le : ∀ R : List Bool, nf R ≤ R.length
  | [] => Nat.le_refl _
  | true :: r => by have := nf_le r; simp [nf]; omega
  | false :: r => by have := nf_le r; simp [nf]; omega
theorem nf_set : ∀ (R : List Bool) (i : Nat), i < R.length → atB R i = false → nf (R.set i true) + 1 = nf R
  | [], i, h, _ => by simp at h
  | x :: r, 0, _, h => by
    unfold atB at h
    simp at h
    subst h
    rfl
  | x :: r, i + 1, hi, h => by
    have hr : atB r i = false := by unfold atB at *; simpa using h
    have ih := nf_set r i (by simpa using hi) hr
    rw [List.set_cons_succ]
    cases x
    · show nf (r.set i true) + 1 + 1 = nf r + 1
      omega
    · show nf (r.set i true) + 1 = nf r
      exact ih
theorem nf_fresh (n i : Nat) (h : i < n) : nf ((List.replicate n false).set i true) + 1 = n := by
  rw [nf_set _ _ (by simpa using h) (by unfold atB; rw [List.getElem?_replicate, if_pos h]; rfl)]
  induction n with
  | zero => omega
  | succ n ih =>
    rw [List.replicate_succ]
    show nf (List.replicate n false) + 1 = n + 1
    cases n with
    | zero => rfl
    | succ m =>
      have : ∀ k : Nat, nf (List.replicate k false) = k := fun k => by
        induction k with
        | zero => rfl
        | succ k ih => rw [List.replicate_succ]; show nf (List.replicate k false) + 1 = k + 1; rw [ih]
      rw [this]

/-- What is true throughout the letters of a part. -/
structure BP (n : Nat) (p todo : List Nat) (R : List Bool) (s : List Nat × List Bool) (k : Nat) : Prop where
  len : s.2.length = n
  pre : ∃ more, s.1 = todo ++ more ∧ (∀ c ∈ more, c ∈ p.take k ∧ c < n)
  meas : s.1.length + nf s.2 = todo.length + nf R
  mono : ∀ j, atB R j = true → atB s.2 j = true
  new : ∀ j, atB s.2 j = true → atB R j = true ∨ (j ∈ s.1 ∧ j ∈ p.take k)
  got : ∀ j, j ∈ p.take k → atB s.2 j = true
theorem bfsP_inv {n : Nat} {p todo : List Nat} {R : List Bool} (hp : ∀ c ∈ p, c < n) (hR : R.length = n) : ∀ k, k ≤ p.length → BP n p todo R (bfsP p todo R k) k
  | 0, _ => ⟨hR, ⟨[], by simp [bfsP], by simp⟩, rfl, fun _ h => h, fun _ h => .inl h, by simp⟩
  | k + 1, hk => by
    have hkl : k < p.length := by omega
    have ih := bfsP_inv (todo := todo) hp hR k (by omega)
    have hc := hp _ (List.getElem_mem hkl)
    have ht : p.take (k + 1) = p.take k ++ [p[k]] := List.take_succ_eq_append_getElem hkl
    have ha : at0 p k = p[k] := at0_lt_of hkl
    unfold bfsP
    rw [ha]
    obtain ⟨s, hs⟩ : ∃ s, bfsP p todo R k = s := ⟨_, rfl⟩
    rw [hs] at ih ⊢
    by_cases h : atB s.2 p[k] = true
    · rw [if_pos h]
      refine ⟨ih.len, ?_, ih.meas, ih.mono, ?_, ?_⟩
      · obtain ⟨more, h1, h2⟩ := ih.pre
        exact ⟨more, h1, fun c hc => ⟨by rw [ht]; exact List.mem_append_left _ (h2 c hc).1, (h2 c hc).2⟩⟩
      · intro j hj
        rcases ih.new j hj with h1 | ⟨h1, h2⟩
        · exact .inl h1
        · exact .inr ⟨h1, by rw [ht]; exact List.mem_append_left _ h2⟩
      · intro j hj
        rw [ht] at hj
        rcases List.mem_append.1 hj with hj | hj
        · exact ih.got j hj
        · simp at hj; subst hj; exact h
    · rw [if_neg h]
      have hf : atB s.2 p[k] = false := by simpa using h
      refine ⟨by rw [List.length_set]; exact ih.len, ?_, ?_, ?_, ?_, ?_⟩
      · obtain ⟨more, h1, h2⟩ := ih.pre
        refine ⟨more ++ [p[k]], by show s.1 ++ [p[k]] = _; rw [h1, List.append_assoc], fun c hcm => ?_⟩
        rw [ht]
        rcases List.mem_append.1 hcm with hcm | hcm
        · exact ⟨List.mem_append_left _ (h2 c hcm).1, (h2 c hcm).2⟩
        · simp at hcm; subst hcm; exact ⟨List.mem_append_right _ (by simp), hc⟩
      · have := nf_set s.2 p[k] (by rw [ih.len]; exact hc) hf
        have := ih.meas
        show (s.1 ++ [p[k]]).length + nf (s.2.set p[k] true) = _
        rw [List.length_append, List.length_singleton]
        omega
      · intro j hj
        show atB (s.2.set p[k] true) j = true
        rw [atB_set _ _ _ _ (by rw [ih.len]; exact hc)]
        split
        · rfl
        · exact ih.mono j hj
      · intro j hj
        have hj' : atB (s.2.set p[k] true) j = true := hj
        rw [atB_set _ _ _ _ (by rw [ih.len]; exact hc)] at hj'
        by_cases hjk : p[k] = j
        · subst hjk
          exact .inr ⟨List.mem_append_right _ (by simp), by rw [ht]; exact List.mem_append_right _ (by simp)⟩
        · rw [if_neg hjk] at hj'
          rcases ih.new j hj' with h1 | ⟨h1, h2⟩
          · exact .inl h1
          · exact .inr ⟨List.mem_append_left _ h1, by rw [ht]; exact List.mem_append_left _ h2⟩
      · intro j hj
        show atB (s.2.set p[k] true) j = true
        rw [atB_set _ _ _ _ (by rw [ih.len]; exact hc)]
        split
        · rfl
        · rename_i hne
          rw [ht] at hj
          rcases List.mem_append.1 hj with hj | hj
          · exact ih.got j hj
          · simp at hj; exact absurd hj.symm hne

/-- One can come from i to j. -/
inductive Path (V : List (List Nat)) (i : Nat) : Nat → Prop
  | refl : Path V i i
  | step {j c : Nat} : Path V i j → c ∈ part V j → Path V i c
theorem Path.trans {V : List (List Nat)} {i j k : Nat} (h : Path V i j) (h' : Path V j k) : Path V i k := by
  induction h' with
  | refl => exact h
  | step _ hc ih => exact ih.step hc

/-- What is true at each look at the queue. -/
structure BF (V : List (List Nat)) (i : Nat) (todo : List Nat) (R : List Bool) : Prop where
  len : R.length = V.length
  self : atB R i = true
  path : ∀ j, atB R j = true → Path V i j
  inn : ∀ j ∈ todo, atB R j = true ∧ j < V.length
  open_ : ∀ j, atB R j = true → j ∈ todo ∨ ∀ c ∈ part V j, atB R c = true
theorem BF.step {V : List (List Nat)} (hV : WF V) {i x : Nat} {todo : List Nat} {R : List Bool} (h : BF V i (x :: todo) R) :
    BF V i (bfsP (part V x) (x :: todo) R (part V x).length).1.tail (bfsP (part V x) (x :: todo) R (part V x).length).2 ∧
      (bfsP (part V x) (x :: todo) R (part V x).length).1.tail.length + 1 + nf (bfsP (part V x) (x :: todo) R (part V x).length).2 = (x :: todo).length + nf R := by
  have hp := (hV.part_le x).2
  have inv := bfsP_inv (todo := x :: todo) hp h.len (part V x).length (Nat.le_refl _)
  obtain ⟨s, hs⟩ : ∃ s, bfsP (part V x) (x :: todo) R (part V x).length = s := ⟨_, rfl⟩
  rw [hs] at inv ⊢
  obtain ⟨more, h1, h2⟩ := inv.pre
  have htl : s.1.tail = todo ++ more := by rw [h1]; rfl
  have hx := h.inn x (by simp)
  refine ⟨⟨inv.len, inv.mono _ h.self, ?_, ?_, ?_⟩, ?_⟩
  · intro j hj
    rcases inv.new j hj with hj | ⟨_, hj⟩
    · exact h.path j hj
    · rw [List.take_length] at hj
      exact (h.path x hx.1).step hj
  · intro j hj
    rw [htl] at hj
    rcases List.mem_append.1 hj with hj | hj
    · have := h.inn j (by simp [hj])
      exact ⟨inv.mono _ this.1, this.2⟩
    · exact ⟨inv.got j (h2 j hj).1, (h2 j hj).2⟩
  · intro j hj
    rw [htl]
    rcases inv.new j hj with hj' | ⟨hj', _⟩
    · rcases h.open_ j hj' with ho | ho
      · rcases List.mem_cons.1 ho with rfl | ho
        · exact .inr (fun c hc => inv.got c (by rw [List.take_length]; exact hc))
        · exact .inl (List.mem_append_left _ ho)
      · exact .inr (fun c hc => inv.mono c (ho c hc))
    · rw [h1] at hj'
      rcases List.mem_append.1 hj' with hj' | hj'
      · rcases List.mem_cons.1 hj' with rfl | hj'
        · exact .inr (fun c hc => inv.got c (by rw [List.take_length]; exact hc))
        · exact .inl (List.mem_append_left _ hj')
      · exact .inl (List.mem_append_right _ hj')
  · have hm := inv.meas
    have hl : s.1.length = s.1.tail.length + 1 := by rw [h1]; simp
    omega

theorem bfsF_inv {V : List (List Nat)} (hV : WF V) {i : Nat} : ∀ (f : Nat) (todo : List Nat) (R : List Bool), BF V i todo R → todo.length + nf R ≤ f → BF V i [] (bfsF V f todo R)
  | 0, todo, R, h, hf => by
    obtain rfl : todo = [] := List.length_eq_zero_iff.1 (by omega)
    exact h
  | f + 1, [], R, h, _ => h
  | f + 1, x :: todo, R, h, hf => by
    obtain ⟨h1, h2⟩ := h.step hV
    exact bfsF_inv hV f _ _ h1 (by omega)

theorem comesR_inv {V : List (List Nat)} (hV : WF V) {i : Nat} (hi : i < V.length) : BF V i [] (comesR V i) := by
  have hl : ((List.replicate V.length false).set i true).length = V.length := by simp
  have hs : ∀ j, atB ((List.replicate V.length false).set i true) j = true → i = j := fun j hj => by
    rw [atB_set _ _ _ _ (by simpa using hi)] at hj
    by_cases h : i = j
    · exact h
    · rw [if_neg h] at hj
      unfold atB at hj
      rw [List.getElem?_replicate] at hj
      split at hj <;> simp at hj
  refine bfsF_inv hV _ _ _ ⟨hl, ?_, ?_, ?_, ?_⟩ (by have := nf_fresh V.length i hi; simp only [List.length_singleton]; omega)
  · rw [atB_set _ _ _ _ (by simpa using hi), if_pos rfl]
  · intro j hj
    obtain rfl := hs j hj
    exact .refl
  · intro j hj
    simp at hj
    subst hj
    exact ⟨by rw [atB_set _ _ _ _ (by simpa using hi), if_pos rfl], hi⟩
  · intro j hj
    obtain rfl := hs j hj
    exact .inl (by simp)
theorem comesR_iff {V : List (List Nat)} (hV : WF V) {i : Nat} (hi : i < V.length) (j : Nat) : atB (comesR V i) j = true ↔ Path V i j := by
  have h := comesR_inv hV hi
  refine ⟨h.path j, fun hp => ?_⟩
  induction hp with
  | refl => exact h.self
  | step _ hc ih => exact (h.open_ _ ih).elim (fun x => by simp at x) (fun x => x _ hc)
theorem cm_eq {V : List (List Nat)} {i : Nat} (hi : i < V.length) (j : Nat) : cm (comesM V) i j = atB (comesR V i) j := by
  unfold cm comesM
  rw [List.getElem?_map, List.getElem?_range hi]
  rfl
theorem cm_iff {V : List (List Nat)} (hV : WF V) {i : Nat} (hi : i < V.length) (j : Nat) : cm (comesM V) i j = true ↔ Path V i j := by
  rw [cm_eq hi]
  exact comesR_iff hV hi j
theorem comesR_len {V : List (List Nat)} (hV : WF V) {i : Nat} (hi : i < V.length) : (comesR V i).length = V.length := (comesR_inv hV hi).len
end Go.Proofs.YtilacamhjibneaaDoor

/- A queue: a slice of the call's own that loses its first element and grows at its end. Its conditions are its premises. -/
namespace Go
theorem Chg.setCells {S : Nat → Prop} {w w' : World} {b : Nat} (h : Chg S w w') (hb : S b ∨ w.heap.size ≤ b) : ∀ (vs : List Value) (o : Nat), Chg S w (w'.setCells b o vs) := by
  intro vs
  induction vs generalizing w' with
  | nil => intro o; exact h
  | cons v vs ih => intro o; exact ih (h.setCell (a := ⟨b, o, none⟩) hb v) (o + 1)

/-- n elements of the size, the cells cs, from cell o of block g on, with room up to c elements. -/
structure QueB (w : World) (size g o c n : Nat) (cs : List Value) : Prop where
  lt : g < w.heap.size
  le : n ≤ c
  len : cs.length = n * size
  at_ : ∀ j u, cs[j]? = some u → w.cell? ⟨g, o + j, none⟩ = some u
  there : ∀ j, j < c * size → (w.cell? ⟨g, o + j, none⟩).isSome = true
  free : ∀ j, w.frozen? ⟨g, j, none⟩ = false

namespace QueB
variable {w w' : World} {size g o c n : Nat} {cs : List Value}
theorem chg {S : Nat → Prop} (h : QueB w size g o c n cs) (hc : Chg S w w') (hn : ¬ S g) : QueB w' size g o c n cs :=
  ⟨Nat.lt_of_lt_of_le h.lt hc.size, h.le, h.len, fun j u hj => hc.cell_some (h.at_ j u hj) hn, fun j hj => by rw [hc.cell (p := ⟨g, o + j, none⟩) h.lt hn]; exact h.there j hj, fun j => by rw [hc.frozen (p := ⟨g, j, none⟩) h.lt hn]; exact h.free j⟩

/-- The first element falls away. -/
theorem tail (h : QueB w size g o c (n + 1) cs) : QueB w size g (if c = 1 then o else o + size) (c - 1) n (cs.drop size) := by
  have hle := h.le
  refine ⟨h.lt, by omega, by rw [List.length_drop, h.len, Nat.add_mul]; omega, fun j u hj => ?_, fun j hj => ?_, h.free⟩
  · rw [List.getElem?_drop] at hj
    by_cases hc : c = 1
    · obtain rfl : n = 0 := by omega
      have := h.len
      rw [List.getElem?_eq_none (by omega)] at hj
      cases hj
    · rw [if_neg hc, Nat.add_assoc]
      exact h.at_ _ u hj
  · by_cases hc : c = 1
    · subst hc; simp at hj
    · rw [if_neg hc, Nat.add_assoc]
      refine h.there _ ?_
      obtain ⟨d, rfl⟩ : ∃ d, c = d + 1 := ⟨c - 1, by omega⟩
      rw [Nat.add_sub_cancel] at hj
      rw [Nat.add_mul]
      omega

theorem of_owns {base : Nat} {e : TypeId} {v : Value} (h : w.ownsRow base e size v n cs) (hn : 0 < n) : ∃ g c, v = .slice (some ⟨g, 0, none⟩) n c ∧ base ≤ g ∧ QueB w size g 0 c n cs := by
  rcases h.2 with ⟨_, h0⟩ | ⟨g, c, cur, rfl, hb, hg, hle, hc, hsz, htk⟩
  · omega
  · refine ⟨g, c, rfl, hb, (Array.getElem?_eq_some_iff.1 hg).1, hle, h.1, fun j u hj => ?_, fun j hj => ?_, fun j => ?_⟩
    · have := h.cells (g := g) rfl j u hj
      rwa [Go.Proofs.YtilacamhjibneaaDoor.add_plain] at this
    · simp [World.cell?, hg]; omega
    · simp [World.frozen?, hg]
end QueB

section
variable {P : Program}
theorem run_append_que (w : World) (t ty e : TypeId) (i : TypeInfo) (z : Value) (size bytes : Nat) (ht : P.underlying t = some (.slice e)) (hi : P.info? e = some i) (hz : i.zero = some z)
    (hsize : i.size = size) (hby : i.bytes = bytes) (hzs : z.cells.size = size) (hsz : 0 < size)
    (g off cap n : Nat) (xs : List Value) (hq : QueB w size g off cap n xs)
    (a : Addr) (m c : Nat) (news : List Value) (hl : news.length = m * size) (hm : 0 < m) (hnews : ∀ j u, news[j]? = some u → w.cell? (a.add j) = some u) (h1 : ∀ u ∈ news, u.oneCell' = true)
    (h63 : n + m ≤ maxLen) (hbytes : (n + m) * bytes ≤ 140737488355328) :
    ∃ g' o' c' w', (Builtin.append_ #[t, t] ty #[.slice (some ⟨g, off, none⟩) n cap, .slice (some a) m c]).run P w = .ok (.slice (some ⟨g', o', none⟩) (n + m) c') w' ∧ QueB w' size g' o' c' (n + m) (xs ++ news) ∧
      (g' = g ∨ w.heap.size ≤ g') ∧ Chg (fun k => k = g) w w' := by
  have hlen : (xs ++ news).length = (n + m) * size := by rw [List.length_append, hq.len, hl, Nat.add_mul]
  by_cases hroom : n + m ≤ cap
  · subst hsize
    have hin : (n + m) * i.size ≤ cap * i.size := Nat.mul_le_mul_right _ hroom
    rw [Nat.add_mul] at hin
    have hthere : ∀ j, j < news.length → (w.cell? ⟨g, off + n * i.size + j, none⟩).isSome = true := fun j hj => by
      rw [Nat.add_assoc]
      exact hq.there _ (by omega)
    have hrun := run_append_room_cells (P := P) w t ty e i ht hi g off n cap a m c news hl hnews h1 hroom hthere (fun j _ => hq.free _)
    refine ⟨g, off, cap, _, hrun, ⟨?_, hroom, hlen, fun j u hj => ?_, fun j hj => World.isSome_setCells g news _ w _ (hq.there j hj), fun j => ?_⟩, .inl rfl, (Chg.refl (fun k => k = g) w).setCells (.inl rfl) news _⟩
    · exact Nat.lt_of_lt_of_le hq.lt ((Chg.refl (fun k => k = g) w).setCells (.inl rfl) news (off + n * i.size)).size
    · by_cases hx : j < xs.length
      · rw [List.getElem?_append_left hx] at hj
        rw [World.cell?_setCells_out g news _ w ⟨g, off + j, none⟩ (fun _ _ => .inl (by show off + j < off + n * i.size; have := hq.len; omega))]
        exact hq.at_ j u hj
      · rw [List.getElem?_append_right (by omega)] at hj
        have hjl : j - xs.length < news.length := (List.getElem?_eq_some_iff.1 hj).1
        have := World.cell?_setCells_in g news (off + n * i.size) w hthere (j - xs.length) hjl
        rw [show off + n * i.size + (j - xs.length) = off + j by have := hq.len; omega] at this
        rw [this]
        rw [List.getElem?_eq_getElem hjl] at hj
        exact hj
    · rw [World.frozen?_setCells]
      exact hq.free j
  · obtain ⟨v', w', hrun, ho, hgr⟩ := run_append_arg_grows (P := P) w t ty e i z size bytes ht hi hz hsize hby hzs hsz ⟨g, off, none⟩ n cap xs hq.len (fun j u hj => by rw [Go.Proofs.YtilacamhjibneaaDoor.add_plain]; exact hq.at_ j u hj) a m c news hl hnews (by omega) h63 hbytes
    obtain ⟨g', c', rfl, hb, hq'⟩ := QueB.of_owns ho (by omega)
    exact ⟨g', 0, c', w', hrun, hq', .inr hb, hgr.os, hgr.tape, hgr.output, hgr.size, fun k hk _ => hgr.block k hk (by simp)⟩

theorem step_append_que {w : World} {ops : Array Oper} {o : Oper} {a : Act} {K : Act → World → Prop} {Q : Exit → Act → World → Prop} {E : Prop} (hgd : o.guard = none) (s x : Operand) (t : TypeId)
    (ho : o.op = .call { callee := .builtin .append, args := #[s, x], argTypes := #[t, t] })
    (e : TypeId) (i : TypeInfo) (z : Value) (size bytes : Nat) (ht : P.underlying t = some (.slice e)) (hi : P.info? e = some i) (hz : i.zero = some z)
    (hsize : i.size = size) (hby : i.bytes = bytes) (hzs : z.cells.size = size) (hsz : 0 < size)
    (g off cap n : Nat) (xs : List Value) (hs : a.eval s = .slice (some ⟨g, off, none⟩) n cap) (hq : QueB w size g off cap n xs)
    (ad : Addr) (m c : Nat) (news : List Value) (hx : a.eval x = .slice (some ad) m c) (hl : news.length = m * size) (hm : 0 < m) (hnews : ∀ j u, news[j]? = some u → w.cell? (ad.add j) = some u) (h1 : ∀ u ∈ news, u.oneCell' = true)
    (h63 : n + m ≤ maxLen) (hbytes : (n + m) * bytes ≤ 140737488355328)
    (hK : ∀ g' o' c' w', QueB w' size g' o' c' (n + m) (xs ++ news) → (g' = g ∨ w.heap.size ≤ g') → Chg (fun k => k = g) w w' → K (a.put o.dst (.slice (some ⟨g', o', none⟩) (n + m) c')) w') :
    if Region.wanted o (yielded ops a.tmps) = true then Oper.wp P o a w K Q else E := by
  rw [if_pos (by simp [Region.wanted, hgd])]
  obtain ⟨g', o', c', w', hrun, r1, r2, r3⟩ := run_append_que (P := P) w t o.type e i z size bytes ht hi hz hsize hby hzs hsz g off cap n xs hq ad m c news hl hm hnews h1 h63 hbytes
  unfold Oper.wp
  simp [execOp, ho, resolve, invoke, builtin, hs, hx, hrun, Result.andThen]
  exact hK g' o' c' w' r1 r2 r3
theorem wpList_append_que {w : World} {ops : Array Oper} {rest : List Oper} {o : Oper} {a : Act} {Q : Exit → Act → World → Prop} (hgd : o.guard = none) (s x : Operand) (t : TypeId)
    (ho : o.op = .call { callee := .builtin .append, args := #[s, x], argTypes := #[t, t] })
    (e : TypeId) (i : TypeInfo) (z : Value) (size bytes : Nat) (ht : P.underlying t = some (.slice e)) (hi : P.info? e = some i) (hz : i.zero = some z)
    (hsize : i.size = size) (hby : i.bytes = bytes) (hzs : z.cells.size = size) (hsz : 0 < size)
    (g off cap n : Nat) (xs : List Value) (hs : a.eval s = .slice (some ⟨g, off, none⟩) n cap) (hq : QueB w size g off cap n xs)
    (ad : Addr) (m c : Nat) (news : List Value) (hx : a.eval x = .slice (some ad) m c) (hl : news.length = m * size) (hm : 0 < m) (hnews : ∀ j u, news[j]? = some u → w.cell? (ad.add j) = some u) (h1 : ∀ u ∈ news, u.oneCell' = true)
    (h63 : n + m ≤ maxLen) (hbytes : (n + m) * bytes ≤ 140737488355328)
    (h : ∀ g' o' c' w', QueB w' size g' o' c' (n + m) (xs ++ news) → (g' = g ∨ w.heap.size ≤ g') → Chg (fun k => k = g) w w' → wpList P ops Q rest (a.put o.dst (.slice (some ⟨g', o', none⟩) (n + m) c')) w') : wpList P ops Q (o :: rest) a w := by
  refine wpList_step fun K hK => ?_
  rw [if_pos (by simp [Region.wanted, hgd])]
  obtain ⟨g', o', c', w', hrun, r1, r2, r3⟩ := run_append_que (P := P) w t o.type e i z size bytes ht hi hz hsize hby hzs hsz g off cap n xs hq ad m c news hl hm hnews h1 h63 hbytes
  unfold Oper.wp
  simp [execOp, ho, resolve, invoke, builtin, hs, hx, hrun, Result.andThen]
  exact hK _ _ (h g' o' c' w' r1 r2 r3)
/-- A slice of m elements, or of none, is appended to a queue. -/
theorem wpList_append_queA {w : World} {ops : Array Oper} {rest : List Oper} {o : Oper} {a : Act} {Q : Exit → Act → World → Prop} (hgd : o.guard = none) (s x : Operand) (t : TypeId)
    (ho : o.op = .call { callee := .builtin .append, args := #[s, x], argTypes := #[t, t] })
    (e : TypeId) (i : TypeInfo) (z : Value) (size bytes : Nat) (ht : P.underlying t = some (.slice e)) (hi : P.info? e = some i) (hz : i.zero = some z)
    (hsize : i.size = size) (hby : i.bytes = bytes) (hzs : z.cells.size = size) (hsz : 0 < size)
    (g off cap n : Nat) (xs : List Value) (hs : a.eval s = .slice (some ⟨g, off, none⟩) n cap) (hq : QueB w size g off cap n xs)
    (bo : Option Addr) (m c : Nat) (news : List Value) (hx : a.eval x = .slice bo m c) (hl : news.length = m * size) (hsrc : m = 0 ∨ ∃ a, bo = some a ∧ ∀ j u, news[j]? = some u → w.cell? (a.add j) = some u) (h1 : ∀ u ∈ news, u.oneCell' = true)
    (h63 : n + m ≤ maxLen) (hbytes : (n + m) * bytes ≤ 140737488355328)
    (h : ∀ g' o' c' w', QueB w' size g' o' c' (n + m) (xs ++ news) → (g' = g ∨ w.heap.size ≤ g') → Chg (fun k => k = g) w w' → wpList P ops Q rest (a.put o.dst (.slice (some ⟨g', o', none⟩) (n + m) c')) w') : wpList P ops Q (o :: rest) a w := by
  by_cases hm : m = 0
  · subst hm
    have hn : news = [] := List.eq_nil_of_length_eq_zero (by simpa using hl)
    subst hn
    have hrun := run_append_empty (P := P) (w := w) t o.type e i ht hi (some ⟨g, off, none⟩) n cap hq.le bo c
    refine wpList_step fun K hK => ?_
    rw [if_pos (by simp [Region.wanted, hgd])]
    unfold Oper.wp
    simp [execOp, ho, resolve, invoke, builtin, hs, hx, hrun, Result.andThen]
    refine hK _ _ (h g off cap w (by simpa using hq) (.inl rfl) (Chg.refl _ _))
  · obtain ⟨ad, rfl, hnews⟩ := hsrc.resolve_left hm
    exact wpList_append_que hgd s x t ho e i z size bytes ht hi hz hsize hby hzs hsz g off cap n xs hs hq ad m c news hx hl (by omega) hnews h1 h63 hbytes h
end
end Go
namespace Go.Proofs.YtilacamhjibneaaDoor
theorem _root_.Go.QueB.of_blk {w : World} {g n : Nat} {e : TypeId} {vals : List Value} (h : Blk w g e vals) (size : Nat) (hn : vals.length = n * size) : QueB w size g 0 n n vals :=
  ⟨h.lt, Nat.le_refl _, hn, fun j u hj => by rw [Nat.zero_add]; exact h.cell_some hj, fun j hj => by rw [Nat.zero_add, h.cell, List.getElem?_eq_getElem (by omega)]; rfl, fun j => h.free j⟩

end Go.Proofs.YtilacamhjibneaaDoor

/- Which parts come of which, walked. Its conditions are its premises. -/
namespace Go.Proofs.YtilacamhjibneaaDoor
open Go.RowKit

def rv (n g : Nat) : Value := .slice (some ⟨g, 0, none⟩) n n
def nilS : Value := .slice none 0 0
theorem info77 : (Tryd.prog.info? 77).map (fun i => (i.zero, i.size, i.bytes)) = some (some (.slice none 0 0), 1, 24) := by kernel_rfl
theorem make_rows (N : Nat) (hN : N ≤ 1000) (w : World) : (Instr.makeSlice 75 (.int .i64 N) (.int .i64 N)).run Tryd.prog w = .ok (.slice (some ⟨w.heap.size, 0, none⟩) N N) (w.alloc (.cells (Array.replicate N (.slice none 0 0)) 77)) := by
  obtain ⟨i0, hi0, hz0, hz1, hz2⟩ := info_parts info77
  have := run_make (P := Tryd.prog) w 75 77 i0 _ Tryd.underlying75 hi0 hz0 .i64 .i64 N N (by omega) (by omega) (by rw [hz2]; omega) (by omega)
  rw [this, hz1, Nat.mul_one, show (Value.slice none 0 0).cells = #[Value.slice none 0 0] from rfl, madeCells_one]
  rfl
theorem made_rows (N : Nat) (w : World) : Blk (w.alloc (.cells (Array.replicate N (.slice none 0 0)) 77)) w.heap.size 77 (List.replicate N nilS) := by
  have := Blk.new w (Array.replicate N (.slice none 0 0)) 77
  simpa [nilS] using this

/-- The rows that are there; the others are nil. -/
def outV (n : Nat) (G : List Nat) : List Value := G.map (rv n) ++ List.replicate (n - G.length) nilS
theorem outV_at {n : Nat} {G : List Nat} {k : Nat} (h : k < G.length) : (outV n G)[k]? = some (rv n G[k]) := by
  unfold outV
  rw [List.getElem?_append_left (by simpa using h), List.getElem?_map, List.getElem?_eq_getElem h]
  rfl
theorem outV_next {n : Nat} {G : List Nat} (h : G.length < n) : (outV n G)[G.length]? = some nilS := by
  unfold outV
  rw [List.getElem?_append_right (by simp), List.getElem?_replicate, if_pos (by simp; omega)]
theorem outV_set {n : Nat} {G : List Nat} (g : Nat) (h : G.length < n) : (outV n G).set G.length (rv n g) = outV n (G ++ [g]) := by
  unfold outV
  rw [List.set_append_right _ _ (by simp), List.length_map, Nat.sub_self]
  obtain ⟨m, hm⟩ : ∃ m, n - G.length = m + 1 := ⟨n - G.length - 1, by omega⟩
  rw [hm, List.replicate_succ, List.map_append, List.length_append, List.length_singleton, show n - (G.length + 1) = m by omega]
  simp

/-- The matrix in memory: the rows of the first parts. -/
structure CM (w0 w : World) (cb : Nat) (V : List (List Nat)) (G : List Nat) : Prop where
  outer : Blk w cb 77 (outV V.length G)
  rows : ∀ k (h : k < G.length), Blk w G[k] 4 (bv (comesR V k)) ∧ G[k] ≠ cb
  chg : Chg (fun _ => False) w0 w
  old : w0.heap.size ≤ cb
theorem CM.lt {w0 w : World} {cb : Nat} {V : List (List Nat)} {G : List Nat} (h : CM w0 w cb V G) : cb < w.heap.size ∧ ∀ k (hk : k < G.length), G[k] < w.heap.size := ⟨h.outer.lt, fun k hk => (h.rows k hk).1.lt⟩

theorem conv_bytes (t : List Nat) (ht : ∀ c ∈ t, c < 100) (w : World) : ∃ c w', (convert 9 52 (.string (str t))).run Tryd.prog w = .ok (.slice (some ⟨w.heap.size, 0, none⟩) t.length c) w' ∧
    (∀ k (h : k < t.length), w'.cell? ⟨w.heap.size, k, none⟩ = some (.int .u8 ((97 + t[k] : Nat) : Int))) ∧ Chg (fun _ => False) w w' ∧ w.heap.size < w'.heap.size := by
  have h := run_bytes_of_string (P := Tryd.prog) w 9 52 5 (str t) Tryd.underlying9 Tryd.underlying52 Tryd.underlying5
  rw [str_size] at h
  refine ⟨_, _, h, fun k hk => ?_, ((Chg.refl _ w).drew).alloc _, ?_⟩
  · have hc := ht _ (List.getElem_mem hk)
    generalize grownCap w t.length 0 5 = cp
    have hh : ∀ o : Obj, (w.drew.alloc o).heap[w.heap.size]? = some o := fun o => by
      show (w.heap.push o)[w.heap.size]? = _
      simp
    unfold World.cell?
    rw [hh]
    have hb : (bytesRow (str t) cp)[k]? = some (.int .u8 ((97 + t[k] : Nat) : Int)) := by
      unfold bytesRow
      rw [Array.getElem?_append_left (by simp [str]; exact hk)]
      simp [str, hk, chr]
      omega
    simpa using hb
  · show w.heap.size < (w.heap.push _).size
    simp

theorem slice_que (w : World) (g o N c : Nat) (hN : 0 < N) : (Instr.sliceAt 29 (.slice (some ⟨g, o, none⟩) N c) (some (.int .i64 1)) none none).run Tryd.prog w = .ok (.slice (some ⟨g, if c = 1 then o else o + 1, none⟩) (N - 1) (c - 1)) w := by
  obtain ⟨i0, hi0, hz0, hz1, hz2⟩ := info_parts info3
  have he : Tryd.prog.elem 29 = 3 := by kernel_rfl
  have hu : Tryd.prog.underlying 29 = some (.slice (Tryd.prog.elem 29)) := by rw [he]; exact Tryd.underlying29
  rw [run_sliceAt_slice w 29 _ _ _ _ hu, run_slice_l w 29 _ N c hu .i64 1 (by omega) (by omega), he]
  simp [sizeOf, typeInfo, hi0, hz1, sliced, Result.andThen]
  by_cases hc : c = 1
  · rw [if_pos hc, if_pos hc]
  · rw [if_neg hc, if_neg hc]
    simp [add_plain]

/-- What the search has in memory. -/
structure CB (w0 w : World) (rb g o c : Nat) (todo : List Nat) (R : List Bool) : Prop where
  que : QueB w 1 g o c todo.length (nv todo)
  row : Blk w rb 4 (bv R)
  gt : rb < g
  chg : Chg (fun k => rb ≤ k) w0 w
theorem CB.kept {w0 w w' : World} {rb g o c : Nat} {todo : List Nat} {R : List Bool} (h : CB w0 w rb g o c todo R) (hc : Chg (fun _ => False) w w') : CB w0 w' rb g o c todo R :=
  ⟨h.que.chg hc (fun x => x), hc.blk h.row (fun x => x), h.gt, h.chg.trans hc (fun _ x => x.elim)⟩
theorem CB.set {w0 w : World} {rb g o c : Nat} {todo : List Nat} {R : List Bool} (h : CB w0 w rb g o c todo R) (i : Nat) : CB w0 (w.setCell ⟨rb, i, none⟩ (.bool true)) rb g o c todo (R.set i true) := by
  have hc := (Chg.refl (fun k => k = rb) w).setCell (a := ⟨rb, i, none⟩) (.inl rfl) (.bool true)
  exact ⟨h.que.chg hc (by have := h.gt; omega), by rw [bv_set]; exact h.row.set i _, h.gt, h.chg.trans hc (fun k hk => .inl (by rw [hk]; exact Nat.le_refl _))⟩
theorem nv_app (l m : List Nat) : nv (l ++ m) = nv l ++ nv m := by simp [nv]
theorem CB.push {w0 w w6 : World} {rb g o c g6 o6 c6 m ch : Nat} {todo : List Nat} {R : List Bool} (h : CB w0 w rb g o c todo R) (hm : todo.length = m) (hq : QueB w6 1 g6 o6 c6 (m + 1) (nv todo ++ [.int .i64 (ch : Int)])) (hg : g6 = g ∨ w.heap.size ≤ g6) (hc : Chg (fun k => k = g) w w6) : CB w0 w6 rb g6 o6 c6 (todo ++ [ch]) R := by
  have h1 := h.gt
  have h2 := h.row.lt
  refine ⟨by rw [nv_app, List.length_append, hm]; exact hq, hc.blk h.row (by omega), by omega, h.chg.trans hc (fun k hk => .inl (by omega))⟩
theorem CB.tail {w0 w : World} {rb g o c n : Nat} {todo : List Nat} {R : List Bool} (h : CB w0 w rb g o c todo R) (hn : todo.length = n) (hn0 : 0 < n) : CB w0 w rb g (if c = 1 then o else o + 1) (c - 1) todo.tail R := by
  obtain ⟨m, rfl⟩ : ∃ m, n = m + 1 := ⟨n - 1, by omega⟩
  have hq := h.que
  rw [hn] at hq
  have := hq.tail
  refine ⟨?_, h.row, h.gt, h.chg⟩
  rw [List.length_tail, hn, Nat.add_sub_cancel, show nv todo.tail = (nv todo).drop 1 by cases todo <;> rfl]
  exact this
theorem CM.all {w0 wo w7 w : World} {cb rb g o c : Nat} {V : List (List Nat)} {G todo : List Nat} {R : List Bool} (hM : CM w0 wo cb V G) (h7 : Chg (fun k => k = cb) wo w7) (hs : wo.heap.size = rb) (h : CB w7 w rb g o c todo R) : Chg (fun _ => False) w0 w := by
  have h1 := hM.chg.size
  have h2 := hM.old
  exact (hM.chg.trans h7 (fun k hk => .inr (by omega))).trans h.chg (fun k hk => .inr (by omega))
theorem CM.next {w0 wo w7 w : World} {cb rb g o c : Nat} {V : List (List Nat)} {G todo : List Nat} {R : List Bool} (hM : CM w0 wo cb V G) (h7 : Chg (fun k => k = cb) wo w7) (hs : wo.heap.size = rb) (h : CB w7 w rb g o c todo R)
    (hb : Blk w7 cb 77 (outV V.length (G ++ [rb]))) (hR : R = comesR V G.length) : CM w0 w cb V (G ++ [rb]) := by
  have hl := hM.lt
  rw [hs] at hl
  refine ⟨h.chg.blk hb (by omega), fun k hk => ?_, hM.all h7 hs h, hM.old⟩
  by_cases hkl : k < G.length
  · rw [List.getElem_append_left hkl]
    have := hM.rows k hkl
    have h2 := hl.2 k hkl
    exact ⟨h.chg.blk (h7.blk this.1 this.2) (by omega), this.2⟩
  · obtain rfl : k = G.length := by simp at hk; omega
    have he : (G ++ [rb])[G.length]'hk = rb := by simp
    rw [he, ← hR]
    exact ⟨h.row, by omega⟩
theorem bf_start {V : List (List Nat)} {i : Nat} (hi : i < V.length) : BF V i [i] ((List.replicate V.length false).set i true) := by
  have hl : ((List.replicate V.length false).set i true).length = V.length := by simp
  have hs : ∀ j, atB ((List.replicate V.length false).set i true) j = true → i = j := fun j hj => by
    rw [atB_set _ _ _ _ (by simpa using hi)] at hj
    by_cases h : i = j
    · exact h
    · rw [if_neg h] at hj
      unfold atB at hj
      rw [List.getElem?_replicate] at hj
      split at hj <;> simp at hj
  refine ⟨hl, ?_, ?_, ?_, ?_⟩
  · rw [atB_set _ _ _ _ (by simpa using hi), if_pos rfl]
  · intro j hj
    obtain rfl := hs j hj
    exact .refl
  · intro j hj
    simp at hj
    subst hj
    exact ⟨by rw [atB_set _ _ _ _ (by simpa using hi), if_pos rfl], hi⟩
  · intro j hj
    obtain rfl := hs j hj
    exact .inl (by simp)
theorem bfsF_nil (V : List (List Nat)) (f : Nat) (R : List Bool) : bfsF V f [] R = R := by cases f <;> rfl

set_option maxRecDepth 100000 in
set_option maxHeartbeats 1000000 in
theorem comes_any (V : List (List Nat)) (hV : WF V) (b off cap : Nat) (w : World) (hv : VAt w b off V) :
    Calls Tryd.prog 84 #[.slice (some ⟨b, off, none⟩) V.length cap] w fun e w' => (∃ cb G, e = .returned (.slice (some ⟨cb, 0, none⟩) V.length V.length) ∧ G.length = V.length ∧ CM w w' cb V G) ∧ Chg (fun _ => False) w w' := by
  have hn6 := hV.le
  have hmk := make_rows V.length (by omega)
  have hmb := make_bools V.length (by omega)
  have HI3 : Hid (∃ i0, Tryd.prog.info? 3 = some i0 ∧ i0.zero = some (.int .i64 0) ∧ i0.size = 1 ∧ i0.bytes = 8) := Lib.hid (by
    obtain ⟨i0, h0, h1, h2, h3⟩ := info_parts info3
    exact ⟨i0, h0, h1, h2, h3⟩)
  have HV := Lib.hid hv; have HWF := Lib.hid hV
  have HB0 := Lib.hid (made_rows V.length w); have HC0 := Lib.hid ((Chg.refl (fun _ => False) w).alloc (.cells (Array.replicate V.length (.slice none 0 0)) 77))
  obtain ⟨cb, hcb⟩ : ∃ cb, w.heap.size = cb := ⟨_, rfl⟩
  rw [hcb] at HB0
  have HCB := Lib.hid hcb
  clear hv hV
  go_enter Tryd.func84, Tryd.ntmps84
  go_wp2_with fail
  clear hcb hmk
  have HM0 : Hid (CM w (w.alloc (.cells (Array.replicate V.length (.slice none 0 0)) 77)) cb V []) := Lib.hid ⟨by unfold outV; simpa using HB0.out, fun k hk => by simp at hk, HC0.out, by rw [HCB.out]; exact Nat.le_refl _⟩
  generalize w.alloc (.cells (Array.replicate V.length (.slice none 0 0)) 77) = W0 at HM0 ⊢
  clear HB0 HC0
  go_loopg [13] V.length (fun gm iv wr => ∃ (i : Nat) (G : List Nat), i ≤ V.length ∧ gm = V.length - i ∧ iv = .int .i64 i ∧ G.length = i ∧ CM w wr cb V G)
  case atStart => exact ⟨0, [], by omega, by omega, rfl, rfl, HM0.out⟩
  case round =>
    clear HM0
    obtain ⟨i, G, hi, rfl, rfl, hG, hM⟩ := hrel
    have HG := Lib.hid hG; have HM := Lib.hid hM
    clear hG hM
    by_cases hlt : i < V.length
    · have d0 : decide (i < V.length) = true := by simpa using hlt
      obtain ⟨rb, hrb⟩ : ∃ rb, wr.heap.size = rb := ⟨_, rfl⟩
      have hcr := HM.out.lt.1
      rw [hrb] at hcr
      have HRB := Lib.hid hrb
      have HB1 := made_bools V.length wr
      rw [hrb] at HB1
      have HO1 := HM.out.outer.alloc (.cells (Array.replicate V.length (.bool false)) 4)
      have hO := HM.out.outer
      have c1 := HO1.cell_some (outV_next (by rw [HG.out]; exact hlt))
      rw [HG.out] at c1
      have f1 := HO1.free i
      have hs7 : ∀ W7, W7 = ((wr.setCell ⟨cb, i, none⟩ (rv V.length rb)).alloc (.cells (Array.replicate V.length (.bool false)) 4)).alloc (.cells #[.int .i64 (i : Int)] 3) →
          Blk W7 cb 77 (outV V.length (G ++ [rb])) ∧ Blk W7 rb 4 (bv (List.replicate V.length false)) ∧ Blk W7 (rb + 1) 3 (nv [i]) ∧ Chg (fun k => k = cb) wr W7 := by
        rintro W7 rfl
        have hsz : (wr.setCell ⟨cb, i, none⟩ (rv V.length rb)).heap.size = rb := by rw [← hrb]; simp [World.setCell]
        refine ⟨?_, ?_, ?_, ?_⟩
        · have := ((hO.set i (rv V.length rb)).alloc (.cells (Array.replicate V.length (.bool false)) 4)).alloc (.cells #[.int .i64 (i : Int)] 3)
          rw [← HG.out, outV_set rb (by rw [HG.out]; exact hlt), HG.out] at this
          exact this
        · have := (made_bools V.length (wr.setCell ⟨cb, i, none⟩ (rv V.length rb))).alloc (.cells #[.int .i64 (i : Int)] 3)
          rw [hsz] at this
          exact this
        · have := Blk.new ((wr.setCell ⟨cb, i, none⟩ (rv V.length rb)).alloc (.cells (Array.replicate V.length (.bool false)) 4)) #[.int .i64 (i : Int)] 3
          rw [show ((wr.setCell ⟨cb, i, none⟩ (rv V.length rb)).alloc (.cells (Array.replicate V.length (.bool false)) 4)).heap.size = rb + 1 by rw [← hsz]; simp [World.alloc]] at this
          exact this
        · exact ((((Chg.refl (fun k => k = cb) wr).setCell (a := ⟨cb, i, none⟩) (.inl rfl) _).alloc _).alloc _)
      go_upto_region 7 with (fail)
      obtain ⟨W7, hW7⟩ : ∃ W7, ((wr.setCell ⟨cb, i, none⟩ (rv V.length rb)).alloc (.cells (Array.replicate V.length (.bool false)) 4)).alloc (.cells #[.int .i64 (i : Int)] 3) = W7 := ⟨_, rfl⟩
      obtain ⟨b1, b2, b3, hc7⟩ := hs7 W7 hW7.symm
      unfold rv at hW7
      rw [hW7]
      clear hW7 hs7 c1 f1 HB1 HO1 hO
      have c2 := b1.cell_some (outV_at (k := i) (by simp; rw [HG.out]; omega))
      rw [show (G ++ [rb])[i]'(by simp; rw [HG.out]; omega) = rb by simp [← HG.out]] at c2
      unfold rv at c2
      have c3 := b2.cell_some (bv_at (i := i) (by simpa using hlt))
      have f3 := b2.free i
      have HB1 := Lib.hid b1; have HB2 := Lib.hid b2; have HB3 := Lib.hid b3; have HC7 := Lib.hid hc7
      clear b1 b2 b3 hc7 hrb hmb
      have HST : Hid (CB W7 (W7.setCell ⟨rb, i, none⟩ (.bool true)) rb (rb + 1) 0 1 [i] ((List.replicate V.length false).set i true)) := Lib.hid
        ((show CB W7 W7 rb (rb + 1) 0 1 [i] (List.replicate V.length false) from ⟨QueB.of_blk HB3.out 1 rfl, HB2.out, by omega, Chg.refl _ _⟩).set i)
      go_wp2_with fail
      clear c2 c3 f3
      generalize W7.setCell ⟨rb, i, none⟩ (.bool true) = W8 at HST ⊢
      go_loopg [5] V.length (fun gm tv wr => ∃ (f : Nat) (todo : List Nat) (R : List Bool) (g o c : Nat), gm = todo.length + nf R ∧ gm ≤ f ∧ f ≤ V.length ∧ tv = .slice (some ⟨g, o, none⟩) todo.length c ∧ CB W7 wr rb g o c todo R ∧ BF V i todo R ∧ bfsF V f todo R = comesR V i)
      case atStart => exact ⟨V.length, [i], _, rb + 1, 0, 1, by have := nf_fresh V.length i hlt; simp only [List.length_singleton]; omega, Nat.le_refl _, Nat.le_refl _, rfl, HST.out, bf_start hlt, rfl⟩
      case round =>
        clear HST
        obtain ⟨f, todo, R, g, o, c, rfl, hf, hfV, rfl, hcb, hbf, hres⟩ := hrel
        have HCB := Lib.hid hcb; have HBF := Lib.hid hbf; have HRES := Lib.hid hres; have HF := Lib.hid hf
        clear hcb hbf hres hf
        cases todo with
        | nil =>
          have HR := Lib.hid (show R = comesR V i by rw [← HRES.out, bfsF_nil])
          go_wp2_with fail
          go_roundg (V.length - (i + 1))
          case measure => omega
          case rel => exact ⟨i + 1, G ++ [rb], by omega, rfl, by go_num, by rw [List.length_append, HG.out]; rfl, HM.out.next HC7.out HRB.out HCB.out HB1.out (by rw [HR.out, HG.out])⟩
        | cons x todo =>
          have hx := (HBF.out.inn x (by simp)).2
          have c0 := HCB.out.que.at_ 0 (.int .i64 (x : Int)) rfl
          rw [Nat.add_zero] at c0
          have HCW := Lib.hid (HM.out.all HC7.out HRB.out HCB.out)
          have v1 := (HV.out.chg HCW.out (fun x => x)) x hx
          rw [← part_lt hx] at v1
          have HPL := Lib.hid (HWF.out.part_le x)
          have HSTEP := Lib.hid (HBF.out.step HWF.out)
          have HFX : Hid (∃ F, f = F + 1 ∧ bfsF V f (x :: todo) R = bfsF V F (bfsP (part V x) (x :: todo) R (part V x).length).1.tail (bfsP (part V x) (x :: todo) R (part V x).length).2) := Lib.hid (by
            have hF := HF.out
            simp only [List.length_cons] at hF
            obtain ⟨F, rfl⟩ : ∃ F, f = F + 1 := ⟨f - 1, by omega⟩
            exact ⟨F, rfl, rfl⟩)
          have hRl := HBF.out.len
          have HRL := Lib.hid hRl
          obtain ⟨p, hp⟩ : ∃ p, part V x = p := ⟨_, rfl⟩
          rw [hp] at v1 HPL HSTEP HFX
          clear hp hRl
          have hpc : ∀ c ∈ p, c < 100 := fun c hc => by have := HPL.out.2 c hc; omega
          obtain ⟨cc, w9, hcv, hby, hc9, hsz9⟩ := conv_bytes p hpc wr
          obtain ⟨pb, hpb⟩ : ∃ pb, wr.heap.size = pb := ⟨_, rfl⟩
          have HGP := Lib.hid (show g < pb by rw [← hpb]; exact HCB.out.que.lt)
          rw [hpb] at hcv hby hsz9
          have HBY := Lib.hid hby; have HSZ9 := Lib.hid hsz9
          have HB9 := Lib.hid (HCB.out.kept hc9)
          have HP8 := Lib.hid HPL.out.1; have HPC := Lib.hid HPL.out.2
          clear hpb hpc hby hsz9 hc9
          have hlen : (x :: todo).length = todo.length + 1 := rfl
          obtain ⟨l, hl⟩ : ∃ l, x :: todo = l := ⟨_, rfl⟩
          have HL := Lib.hid hl
          rw [hl] at hlen HSTEP HFX HB9 HF ⊢
          clear hl
          obtain ⟨n, hn⟩ : ∃ n, l.length = n := ⟨_, rfl⟩
          have HN := Lib.hid hn
          rw [hn] at hlen ⊢
          clear hn
          have hn0 : 0 < n := by omega
          have dn : decide ((0 : Int) < (n : Int)) = true := by simp; omega
          clear hlen
          go_wp2_with fail
          clear dn hn0 c0 v1 hcv
          go_loopg [43, 5] p.length (fun gm kv tv wr => ∃ k g o c : Nat, k ≤ p.length ∧ gm = p.length - k ∧ kv = .int .i64 k ∧ tv = .slice (some ⟨g, o, none⟩) (bfsP p l R k).1.length c ∧ CB W7 wr rb g o c (bfsP p l R k).1 (bfsP p l R k).2 ∧ g ≠ pb ∧ pb < wr.heap.size ∧ rb < pb ∧ ∀ k (h : k < p.length), wr.cell? ⟨pb, k, none⟩ = some (.int .u8 ((97 + p[k] : Nat) : Int)))
          case atStart => exact ⟨0, g, o, c, by omega, by omega, rfl, by show _ = Value.slice (some ⟨g, o, none⟩) l.length c; rw [HN.out], HB9.out, by have := HGP.out; omega, HSZ9.out, by have := HGP.out; have := HB9.out.gt; omega, HBY.out⟩
          case round =>
            clear HB9 HBY HSZ9 HGP HCB
            obtain ⟨k, g, o, c, hk, rfl, rfl, rfl, hcb, hgp, hps, hrp, hby⟩ := hrel
            have hinv := bfsP_inv (todo := l) HPC.out HRL.out k hk
            have hmeas := hinv.meas
            have HCB := Lib.hid hcb; have HGP := Lib.hid hgp; have HPS := Lib.hid hps; have HRP := Lib.hid hrp; have HBY := Lib.hid hby; have HSL := Lib.hid hinv.len
            have HPOS := Lib.hid (show 0 < (bfsP p l R k).1.length by obtain ⟨more, h1, _⟩ := hinv.pre; rw [h1, List.length_append, ← HL.out, List.length_cons]; omega)
            clear hcb hgp hps hrp hby hinv
            obtain ⟨s, hs⟩ : ∃ s, bfsP p l R k = s := ⟨_, rfl⟩
            have HS := Lib.hid hs
            rw [hs] at HCB HSL HPOS hmeas ⊢
            clear hs
            obtain ⟨m, hm⟩ : ∃ m, s.1.length = m := ⟨_, rfl⟩
            have hm6 : m ≤ 6 := by have := HF.out; omega
            have HM1 := Lib.hid hm
            rw [hm] at HPOS ⊢
            clear hm hmeas
            by_cases hkl : k < p.length
            · have d3 : decide (k < p.length) = true := by simpa using hkl
              have hcn := HPC.out _ (List.getElem_mem hkl)
              have y1 := HBY.out k hkl
              have hp8 := HP8.out
              have hu8 := u8_chr p[k] (by omega)
              have hcr2 : ¬ rb ≤ cb := by omega
              have c1 := (HCB.out.chg.blk HB1.out hcr2).cell_some (outV_at (k := i) (by simp; rw [HG.out]; omega))
              rw [show (G ++ [rb])[i]'(by simp; rw [HG.out]; omega) = rb by simp [← HG.out]] at c1
              unfold rv at c1
              have k1 := HCB.out.row.cell_some (bv_at (i := p[k]) (by rw [HSL.out]; omega))
              have f1 := HCB.out.row.free p[k]
              have HSK := Lib.hid (show bfsP p l R (k + 1) = if atB s.2 p[k] = true then s else (s.1 ++ [p[k]], s.2.set p[k] true) by rw [bfsP, at0_lt_of hkl, HS.out])
              obtain ⟨ch, hc⟩ : ∃ ch, p[k] = ch := ⟨_, rfl⟩
              rw [hc] at hcn hu8 HSK k1 f1 y1
              obtain ⟨C, hC⟩ : ∃ C, 97 + ch = C := ⟨_, rfl⟩
              rw [hC] at hu8 y1
              clear hc hC
              have hci : (ch : Int) < (V.length : Int) := by omega
              obtain ⟨x1, hx1⟩ : ∃ x1, atB s.2 ch = x1 := ⟨_, rfl⟩
              rw [hx1] at k1 HSK
              clear hx1
              cases x1
              · obtain ⟨qb, hqb⟩ : ∃ qb, wr.heap.size = qb := ⟨_, rfl⟩
                have HC2 := HCB.out.set ch
                have HQ := Lib.hid ((HC2.kept ((Chg.refl (fun _ => False) _).alloc (.cells #[.int .i64 (ch : Int)] 3))))
                have HX := Lib.hid (Blk.new (wr.setCell ⟨rb, ch, none⟩ (.bool true)) #[.int .i64 (ch : Int)] 3)
                rw [show (wr.setCell ⟨rb, ch, none⟩ (.bool true)).heap.size = qb by rw [← hqb]; simp [World.setCell]] at HX
                have HSZ : Hid (((wr.setCell ⟨rb, ch, none⟩ (.bool true)).alloc (.cells #[.int .i64 (ch : Int)] 3)).heap.size = qb + 1) := Lib.hid (by rw [← hqb]; simp [World.alloc, World.setCell])
                have HPQ := Lib.hid (show pb < qb by rw [← hqb]; exact HPS.out)
                have hqq := HQ.out.que
                rw [HM1.out] at hqq
                have HQQ := Lib.hid hqq
                clear hqq HC2
                go_wp2_with (at_builtin; refine wpList_append_que rfl (.tmp 63) (.tmp 67) 29 rfl 3 HI3.out.choose _ 1 8 Tryd.underlying29 HI3.out.choose_spec.1 HI3.out.choose_spec.2.1 HI3.out.choose_spec.2.2.1 HI3.out.choose_spec.2.2.2 rfl (by decide) g o c m _ (by simp [Act.eval]) HQQ.out ⟨qb, 0, none⟩ 1 1 [.int .i64 (ch : Int)] (by simp [Act.eval]) rfl (by decide) (fun j v hj => by rw [add_plain, Nat.zero_add]; exact HX.out.cell_some hj) (by intro v hv; simp at hv; subst hv; rfl) (by unfold maxLen; omega) (by omega) ?_)
                intro g6 o6 c6 w6 hq6 hg6 hc6
                have HC6 := Lib.hid (((((Chg.refl (fun k => k = rb ∨ k = g) wr).setCell (a := ⟨rb, ch, none⟩) (.inl (.inl rfl)) (.bool true)).alloc (.cells #[.int .i64 (ch : Int)] 3))).trans hc6 (fun k hk => .inl (.inr hk)))
                have HCB6 := Lib.hid (HQ.out.push HM1.out hq6 (by rw [HSZ.out]; exact hg6) hc6)
                have HG6 := Lib.hid (show g6 ≠ pb by
                  rcases hg6 with h | h
                  · have := HGP.out; omega
                  · have := HPQ.out; omega)
                clear hq6 hg6 hc6 HQ HX HQQ hqb
                go_wp2_with fail
                go_roundg (p.length - (k + 1))
                case measure => omega
                case rel =>
                  rw [if_neg (by simp)] at HSK
                  refine ⟨k + 1, g6, o6, c6, by omega, rfl, by go_num, ?_, ?_, HG6.out, Nat.lt_of_lt_of_le HPS.out HC6.out.size, HRP.out, fun k hk => HC6.out.cell_some (HBY.out k hk) (by have := HGP.out; have := HRP.out; dsimp only; omega)⟩
                  · rw [HSK.out]; show _ = Value.slice _ (s.1 ++ [ch]).length _; rw [List.length_append, HM1.out]; rfl
                  · rw [HSK.out]; exact HCB6.out
              · rw [if_pos rfl] at HSK
                go_wp2_with fail
                go_roundg (p.length - (k + 1))
                case measure => omega
                case rel =>
                  refine ⟨k + 1, g, o, c, by omega, rfl, by go_num, ?_, ?_, HGP.out, HPS.out, HRP.out, HBY.out⟩
                  · rw [HSK.out, HM1.out]
                  · rw [HSK.out]; exact HCB.out
            · obtain rfl : k = p.length := by omega
              rw [HS.out] at HSTEP HFX
              have hm0 : 0 < m := HPOS.out
              have hsl := fun w' => slice_que w' g o m c hm0
              obtain ⟨o2, ho2⟩ : ∃ o2, (if c = 1 then o else o + 1) = o2 := ⟨_, rfl⟩
              simp only [ho2] at hsl
              have HT := Lib.hid (HCB.out.tail HM1.out hm0)
              rw [ho2] at HT
              have HTL := Lib.hid (show s.1.tail.length = m - 1 by rw [List.length_tail, HM1.out])
              clear ho2
              go_wp2_with fail
              obtain ⟨F, rfl, hFF⟩ := HFX.out
              go_roundg (s.1.tail.length + nf s.2)
              case measure => have := HSTEP.out.2; have := congrArg List.length HL.out; omega
              case rel =>
                refine ⟨F, s.1.tail, s.2, g, o2, c - 1, rfl, ?_, by omega, by rw [HTL.out], HT.out, HSTEP.out.1, ?_⟩
                · have := HSTEP.out.2; have := HF.out; omega
                · rw [← hFF, ← HL.out]; exact HRES.out
    · obtain rfl : i = V.length := by omega
      go_wp2_with fail
      go_ret
      exact ⟨⟨cb, G, rfl, HG.out, HM.out⟩, HM.out.chg⟩
end Go.Proofs.YtilacamhjibneaaDoor

/- The matrix as it is read; how many letters of a part come back to it, walked. Their conditions are their premises. -/
namespace Go.Proofs.YtilacamhjibneaaDoor
open Go.RowKit

/-- The matrix's cells. -/
def MAt (w : World) (cb : Nat) (V : List (List Nat)) : Prop := ∀ i, i < V.length → ∃ g, w.cell? ⟨cb, i, none⟩ = some (.slice (some ⟨g, 0, none⟩) V.length V.length) ∧ ∀ j, j < V.length → w.cell? ⟨g, j, none⟩ = some (.bool (cm (comesM V) i j))
theorem MAt.chg {w w' : World} {cb : Nat} {V : List (List Nat)} (h : MAt w cb V) (hc : Chg (fun _ => False) w w') : MAt w' cb V := fun i hi => by
  obtain ⟨g, h1, h2⟩ := h i hi
  exact ⟨g, hc.cell_some h1 (fun x => x), fun j hj => hc.cell_some (h2 j hj) (fun x => x)⟩
theorem CM.mat {w0 w : World} {cb : Nat} {V : List (List Nat)} {G : List Nat} (h : CM w0 w cb V G) (hV : WF V) (hG : G.length = V.length) : MAt w cb V := fun i hi => by
  have hiG : i < G.length := by omega
  refine ⟨G[i], h.outer.cell_some (outV_at hiG), fun j hj => ?_⟩
  rw [cm_eq hi]
  exact (h.rows i hiG).1.cell_some (bv_at (by rw [comesR_len hV hi]; exact hj))

/-- How many of the first k letters of a part come back to i. -/
def bkF (V : List (List Nat)) (i : Nat) (p : List Nat) : Nat → Nat
  | 0 => 0
  | k + 1 => if cm (comesM V) (at0 p k) i = true then bkF V i p k + 1 else bkF V i p k
def backV (V : List (List Nat)) (i : Nat) : Nat := bkF V i (part V i) (part V i).length
theorem bkF_le (V : List (List Nat)) (i : Nat) (p : List Nat) : ∀ k, bkF V i p k ≤ k
  | 0 => Nat.le_refl _
  | k + 1 => by have := bkF_le V i p k; unfold bkF; split <;> omega
theorem backV_le {V : List (List Nat)} (hV : WF V) (i : Nat) : backV V i ≤ 8 := Nat.le_trans (bkF_le _ _ _ _) (hV.part_le i).1

set_option maxRecDepth 100000 in
set_option maxHeartbeats 1000000 in
theorem back_any (V : List (List Nat)) (hV : WF V) (i : Nat) (hi : i < V.length) (vb mb b off cap cb : Nat) (w : World) (hv : VAt w b off V) (hm : MAt w cb V) (hvb : w.cell? ⟨vb, 0, none⟩ = some (.slice (some ⟨b, off, none⟩) V.length cap))
    (hmb : w.cell? ⟨mb, 0, none⟩ = some (.slice (some ⟨cb, 0, none⟩) V.length V.length)) :
    Calls Tryd.prog 85 #[.int .i64 (i : Int), .pointer (some ⟨vb, 0, none⟩), .pointer (some ⟨mb, 0, none⟩)] w fun e w' => e = .returned (.int .i64 (backV V i : Int)) ∧ Chg (fun _ => False) w w' := by
  have hn6 := hV.le
  have HV := Lib.hid hv; have HM := Lib.hid hm; have HMB := Lib.hid hmb
  have v1 := hv i hi
  rw [← part_lt hi] at v1
  have HPL := Lib.hid (hV.part_le i)
  have HBV := Lib.hid (show backV V i = bkF V i (part V i) (part V i).length from rfl)
  obtain ⟨p, hp⟩ : ∃ p, part V i = p := ⟨_, rfl⟩
  rw [hp] at v1 HPL HBV
  clear hp hv hm hmb hV
  have hpc : ∀ c ∈ p, c < 100 := fun c hc => by have := HPL.out.2 c hc; omega
  obtain ⟨cc, w9, hcv, hby, hc9, hsz9⟩ := conv_bytes p hpc w
  obtain ⟨pb, hpb⟩ : ∃ pb, w.heap.size = pb := ⟨_, rfl⟩
  rw [hpb] at hcv hby hsz9
  have HBY := Lib.hid hby; have HC9 := Lib.hid hc9
  clear hpb hpc hby hsz9 hc9
  go_enter Tryd.func85, Tryd.ntmps85
  go_wp2_with fail
  clear v1 hcv hvb
  go_loopg [14, 5] p.length (fun gm kv sv wr => ∃ k : Nat, k ≤ p.length ∧ gm = p.length - k ∧ kv = .int .i64 k ∧ sv = .int .i64 (bkF V i p k) ∧ wr = w9)
  case atStart => exact ⟨0, by omega, by omega, rfl, rfl, rfl⟩
  case round =>
    obtain ⟨k, hk, rfl, rfl, rfl, rfl⟩ := hrel
    by_cases hkl : k < p.length
    · have d3 : decide (k < p.length) = true := by simpa using hkl
      have hcn := HPL.out.2 _ (List.getElem_mem hkl)
      have hp8 := HPL.out.1
      have y1 := HBY.out k hkl
      have hu8 := u8_chr p[k] (by omega)
      have hs8 := bkF_le V i p k
      have HSK := Lib.hid (show bkF V i p (k + 1) = if cm (comesM V) p[k] i = true then bkF V i p k + 1 else bkF V i p k by rw [bkF, at0_lt_of hkl])
      obtain ⟨c, hc⟩ : ∃ c, p[k] = c := ⟨_, rfl⟩
      rw [hc] at hcn hu8 HSK y1
      obtain ⟨C, hC⟩ : ∃ C, 97 + c = C := ⟨_, rfl⟩
      rw [hC] at hu8 y1
      clear hc hC
      have hci : (c : Int) < (V.length : Int) := by omega
      have m0 := HC9.out.cell_some HMB.out (fun x => x)
      obtain ⟨g, m1, m2⟩ := (HM.out.chg HC9.out) c hcn
      have m3 := m2 i hi
      clear m2
      obtain ⟨x, hx⟩ : ∃ x, cm (comesM V) c i = x := ⟨_, rfl⟩
      rw [hx] at m3 HSK
      clear hx
      obtain ⟨s, hs⟩ : ∃ s, bkF V i p k = s := ⟨_, rfl⟩
      rw [hs] at HSK hs8 ⊢
      clear hs
      cases x
      all_goals
        go_wp2_with fail
        go_roundg (p.length - (k + 1))
        case measure => omega
        case rel => exact ⟨k + 1, by omega, rfl, by go_num, by rw [HSK.out]; simp <;> go_num, rfl⟩
    · obtain rfl : k = p.length := by omega
      go_wp2_with fail
      go_ret
      exact ⟨by rw [HBV.out]; rfl, HC9.out⟩
end Go.Proofs.YtilacamhjibneaaDoor

/- The longest chain, walked. Its conditions are its premises. -/
namespace Go.Proofs.YtilacamhjibneaaDoor
open Go.RowKit

/-- From i to j, and no way back. -/
def dn (V : List (List Nat)) (i j : Nat) : Bool := !decide (j = i) && cm (comesM V) i j && !cm (comesM V) j i
def mxF (g : Nat → Nat) (p : Nat → Bool) : Nat → Nat
  | 0 => 0
  | k + 1 => if p k = true then max (mxF g p k) (g k) else mxF g p k
def chF (V : List (List Nat)) : Nat → Nat → Nat
  | 0, _ => 0
  | f + 1, i => (if 0 < backV V i then 1 else 0) + mxF (chF V f) (dn V i) V.length
theorem mxF_le (g : Nat → Nat) (p : Nat → Bool) (m : Nat) (h : ∀ j, g j ≤ m) : ∀ k, mxF g p k ≤ m
  | 0 => Nat.zero_le _
  | k + 1 => by have := mxF_le g p m h k; have := h k; unfold mxF; split <;> omega
theorem chF_le (V : List (List Nat)) : ∀ f i, chF V f i ≤ f
  | 0, _ => Nat.le_refl _
  | f + 1, i => by
    have := mxF_le (chF V f) (dn V i) f (chF_le V f) V.length
    unfold chF
    split <;> omega

/-- How many parts come of i. -/
def rk (V : List (List Nat)) (i : Nat) : Nat := V.length - nf (comesR V i)
theorem nf_mono : ∀ (R R' : List Bool), R.length = R'.length → (∀ k, atB R' k = true → atB R k = true) → nf R ≤ nf R'
  | [], [], _, _ => Nat.le_refl _
  | [], _ :: _, h, _ => by simp at h
  | _ :: _, [], h, _ => by simp at h
  | x :: R, y :: R', hl, h => by
    have ih := nf_mono R R' (by simpa using hl) (fun k hk => by have := h (k + 1); unfold atB at *; simpa using this (by simpa using hk))
    have h0 := h 0
    unfold atB at h0
    cases x <;> cases y <;> simp [nf] at h0 ⊢ <;> omega
theorem nf_lt : ∀ (R R' : List Bool), R.length = R'.length → (∀ k, atB R' k = true → atB R k = true) → ∀ k, k < R.length → atB R k = true → atB R' k = false → nf R < nf R'
  | [], _, _, _, k, hk, _, _ => by simp at hk
  | _ :: _, [], h, _, _, _, _, _ => by simp at h
  | x :: R, y :: R', hl, h, 0, hk, h1, h2 => by
    have ih := nf_mono R R' (by simpa using hl) (fun k hk => by have := h (k + 1); unfold atB at *; simpa using this (by simpa using hk))
    unfold atB at h1 h2
    simp at h1 h2
    subst h1 h2
    simp [nf]
    omega
  | x :: R, y :: R', hl, h, k + 1, hk, h1, h2 => by
    have ih := nf_lt R R' (by simpa using hl) (fun k hk => by have := h (k + 1); unfold atB at *; simpa using this (by simpa using hk)) k (by simpa using hk) (by unfold atB at *; simpa using h1) (by unfold atB at *; simpa using h2)
    have h0 := h 0
    unfold atB at h0
    cases x <;> cases y <;> simp [nf] at h0 ⊢ <;> omega
theorem rk_le (V : List (List Nat)) (i : Nat) : rk V i ≤ V.length := Nat.sub_le _ _
theorem rk_pos {V : List (List Nat)} (hV : WF V) {i : Nat} (hi : i < V.length) : 0 < rk V i := by
  have hl := comesR_len hV hi
  have hs := (comesR_iff hV hi i).2 .refl
  have := nf_lt (comesR V i) (List.replicate V.length false) (by rw [hl]; simp) (fun k hk => by
    unfold atB at hk
    rw [List.getElem?_replicate] at hk
    split at hk <;> simp at hk) i (by rw [hl]; exact hi) hs (by unfold atB; rw [List.getElem?_replicate, if_pos hi]; rfl)
  have h2 := nf_le (List.replicate V.length false)
  rw [List.length_replicate] at h2
  unfold rk
  omega
theorem rk_dn {V : List (List Nat)} (hV : WF V) {i j : Nat} (hi : i < V.length) (hj : j < V.length) (h : dn V i j = true) : rk V j < rk V i := by
  unfold dn at h
  simp at h
  obtain ⟨⟨h1, h2⟩, h3⟩ := h
  have hl := comesR_len hV hi
  have hl2 := comesR_len hV hj
  rw [cm_eq hj] at h3
  have := nf_lt (comesR V i) (comesR V j) (by omega) (fun k hk => (comesR_iff hV hi k).2 (((cm_iff hV hi j).1 h2).trans ((comesR_iff hV hj k).1 hk))) i (by omega) ((comesR_iff hV hi i).2 .refl) h3
  have h4 := nf_le (comesR V j)
  unfold rk
  omega

set_option maxRecDepth 100000 in
set_option maxHeartbeats 1000000 in
theorem chain_any (V : List (List Nat)) (hV : WF V) (vb mb b off cap cb : Nat) : ∀ (f i : Nat), i < V.length → rk V i ≤ f → f ≤ V.length → ∀ (w : World), VAt w b off V → MAt w cb V → w.cell? ⟨vb, 0, none⟩ = some (.slice (some ⟨b, off, none⟩) V.length cap) →
    w.cell? ⟨mb, 0, none⟩ = some (.slice (some ⟨cb, 0, none⟩) V.length V.length) →
    Calls Tryd.prog 86 #[.slice (some ⟨b, off, none⟩) V.length cap, .int .i64 (i : Int), .slice (some ⟨cb, 0, none⟩) V.length V.length, .func (.func 85) #[] #[.pointer (some ⟨vb, 0, none⟩), .pointer (some ⟨mb, 0, none⟩)]] w fun e w' => e = .returned (.int .i64 (chF V f i : Int)) ∧ Chg (fun _ => False) w w' := by
  intro f
  induction f with
  | zero => intro i hi hr; have := rk_pos hV hi; omega
  | succ f ih =>
    intro i hi hr hfV w hv hm hvb hmb
    have hn6 := hV.le
    have HIH := Lib.hid ih
    have HV := Lib.hid hv; have HM := Lib.hid hm; have HMB := Lib.hid hmb; have HVB := Lib.hid hvb
    have HRI := Lib.hid hr
    have HWF := Lib.hid hV
    have HBK := Lib.hid (back_any V hV i hi vb mb b off cap cb w hv hm hvb hmb)
    have HCF := Lib.hid (show chF V (f + 1) i = (if 0 < backV V i then 1 else 0) + mxF (chF V f) (dn V i) V.length from rfl)
    have HMX := Lib.hid (mxF_le (chF V f) (dn V i) f (chF_le V f))
    have HCL := Lib.hid (chF_le V f)
    clear ih hv hm hvb hmb hr hV
    obtain ⟨K, hK⟩ : ∃ K, backV V i = K := ⟨_, rfl⟩
    rw [hK] at HBK HCF
    clear hK
    go_enter Tryd.func86, Tryd.ntmps86
    go_wp2_with fail
    refine HBK.out.mono ?_
    rintro e w1 ⟨rfl, hc1⟩
    have HC1 := Lib.hid hc1
    clear hc1
    obtain ⟨B, hB⟩ : ∃ B : Nat, (if 0 < K then 1 else 0) = B := ⟨_, rfl⟩
    rw [hB] at HCF
    have HB := Lib.hid hB
    clear hB
    by_cases hK0 : 0 < K
    all_goals
      have dk : decide ((0 : Int) < (K : Int)) = decide (0 < K) := by simp
      go_wp2_with fail
      go_loopg [18, 10] V.length (fun gm jv mv wr => ∃ j : Nat, j ≤ V.length ∧ gm = V.length - j ∧ jv = .int .i64 j ∧ mv = .int .i64 (mxF (chF V f) (dn V i) j) ∧ Chg (fun _ => False) w wr)
      case atStart => exact ⟨0, by omega, by omega, rfl, rfl, HC1.out⟩
      case round =>
        clear HC1
        obtain ⟨j, hj, rfl, rfl, rfl, hc⟩ := hrel
        have HC := Lib.hid hc
        clear hc
        by_cases hlt : j < V.length
        · have d0 : decide (j < V.length) = true := by simpa using hlt
          have hmx := HMX.out j
          have HSM := Lib.hid (show mxF (chF V f) (dn V i) (j + 1) = if dn V i j = true then max (mxF (chF V f) (dn V i) j) (chF V f j) else mxF (chF V f) (dn V i) j from rfl)
          have HRD := Lib.hid (rk_dn HWF.out hi hlt)
          have HDN := Lib.hid (show dn V i j = (!decide (j = i) && cm (comesM V) i j && !cm (comesM V) j i) from rfl)
          obtain ⟨M, hM⟩ : ∃ M, mxF (chF V f) (dn V i) j = M := ⟨_, rfl⟩
          rw [hM] at HSM hmx ⊢
          clear hM
          by_cases hji : j = i
          · have HDF := Lib.hid (show dn V i j = false by rw [HDN.out]; simp [hji])
            clear HDN HRD
            subst hji
            go_wp2_with fail
            go_roundg (V.length - (j + 1))
            case measure => omega
            case rel => exact ⟨j + 1, by omega, rfl, by go_num, by rw [HSM.out, HDF.out]; rfl, HC.out⟩
          · have d1 : ¬ (j : Int) = (i : Int) := by omega
            have HDJ := Lib.hid (show decide (j = i) = false by simpa using hji)
            clear hji
            have hm := HM.out.chg HC.out
            obtain ⟨g1, m1, m2⟩ := hm i hi
            have m3 := m2 j hlt
            obtain ⟨g2, m4, m5⟩ := hm j hlt
            have m6 := m5 i hi
            clear m2 m5 hm
            obtain ⟨x, hx⟩ : ∃ x, cm (comesM V) i j = x := ⟨_, rfl⟩
            obtain ⟨y, hy⟩ : ∃ y, cm (comesM V) j i = y := ⟨_, rfl⟩
            rw [hx, hy] at HDN
            rw [hx] at m3
            rw [hy] at m6
            rw [HDJ.out] at HDN
            clear hx hy
            cases x <;> cases y
            case true.false =>
              have HDT := Lib.hid (show dn V i j = true by rw [HDN.out]; rfl)
              rw [if_pos HDT.out] at HSM
              have HCH := Lib.hid (HIH.out j hlt (by have := HRD.out HDT.out; have := HRI.out; omega) (by omega) wr (HV.out.chg HC.out (fun x => x)) (HM.out.chg HC.out) (HC.out.cell_some HVB.out (fun x => x)) (HC.out.cell_some HMB.out (fun x => x)))
              have hcl := HCL.out j
              obtain ⟨N, hN⟩ : ∃ N, chF V f j = N := ⟨_, rfl⟩
              rw [hN] at HCH HSM hcl
              clear hN
              go_wp2_with fail
              refine HCH.out.mono ?_
              rintro e w2 ⟨rfl, hc2⟩
              have HC2 := Lib.hid (HC.out.trans hc2 (fun _ x => x.elim))
              clear hc2
              go_wp2_with fail
              go_roundg (V.length - (j + 1))
              case measure => omega
              case rel => exact ⟨j + 1, by omega, rfl, by go_num, by rw [HSM.out]; congr 1; omega, HC2.out⟩
            all_goals
              have HDF := Lib.hid (show dn V i j = false by rw [HDN.out]; rfl)
              go_wp2_with fail
              go_roundg (V.length - (j + 1))
              case measure => omega
              case rel => exact ⟨j + 1, by omega, rfl, by go_num, by rw [HSM.out, HDF.out]; rfl, HC.out⟩
        · obtain rfl : j = V.length := by omega
          have hmx := HMX.out V.length
          go_wp2_with fail
          go_ret
          refine ⟨?_, HC.out⟩
          rw [HCF.out, ← HB.out]
          first | rw [if_pos hK0] | rw [if_neg hK0]
          refine ret_int ?_
          have := HMX.out V.length
          first | omega | go_num | (simp; done) | trace_state
end Go.Proofs.YtilacamhjibneaaDoor

/- The parts' kinds, walked. Its conditions are its premises. -/
namespace Go.Proofs.YtilacamhjibneaaDoor
open Go.RowKit

/-- A part that comes of i among the first k comes back more than once. -/
def wlF (V : List (List Nat)) (i : Nat) : Nat → Bool
  | 0 => false
  | j + 1 => if (cm (comesM V) i j && decide (1 < backV V j)) = true then true else wlF V i j
def wildV (V : List (List Nat)) (i : Nat) : Bool := wlF V i V.length
def natS (V : List (List Nat)) (i : Nat) : Nat := if wildV V i = true then 0 else chF V V.length i
def natK (V : List (List Nat)) (i : Nat) : Nat := if wildV V i = true then 3 else if 1 < natS V i then 2 else if natS V i = 1 then 1 else 0
def setF (n : Nat) (g : Nat → Nat) : Nat → List Nat
  | 0 => List.replicate n 0
  | i + 1 => (setF n g i).set i (g i)
theorem setF_len (n : Nat) (g : Nat → Nat) : ∀ k, (setF n g k).length = n
  | 0 => by simp [setF]
  | k + 1 => by rw [setF, List.length_set, setF_len n g k]
theorem setF_at (n : Nat) (g : Nat → Nat) (c : Nat) (hc : c < n) : ∀ k, k ≤ n → at0 (setF n g k) c = if c < k then g c else 0
  | 0, _ => by
    unfold setF at0
    rw [List.getElem?_replicate, if_pos hc]
    rfl
  | k + 1, hk => by
    rw [setF, at0_set _ _ _ _ (by rw [setF_len]; omega), setF_at n g c hc k (by omega)]
    by_cases h : k = c
    · subst h; rw [if_pos rfl, if_pos (by omega)]
    · rw [if_neg h]
      by_cases h2 : c < k
      · rw [if_pos h2, if_pos (by omega)]
      · rw [if_neg h2, if_neg (by omega)]
theorem setF_zero (n : Nat) (g : Nat → Nat) (k : Nat) (hk : k < n) (h : g k = 0) : setF n g (k + 1) = setF n g k := by
  rw [setF, h]
  apply List.ext_getElem?
  intro j
  rw [List.getElem?_set]
  by_cases hj : k = j
  · subst hj
    have h1 := setF_at n g k hk k (by omega)
    rw [if_neg (by omega)] at h1
    have h2 : k < (setF n g k).length := by rw [setF_len]; exact hk
    rw [if_pos rfl, if_pos h2, List.getElem?_eq_getElem h2]
    rw [at0_lt_of h2] at h1
    rw [h1]
  · rw [if_neg hj]
theorem make_ints (N : Nat) (hN : N ≤ 1000) (w : World) : (Instr.makeSlice 29 (.int .i64 N) (.int .i64 N)).run Tryd.prog w = .ok (.slice (some ⟨w.heap.size, 0, none⟩) N N) (w.alloc (.cells (Array.replicate N (.int .i64 0)) 3)) := by
  obtain ⟨i0, hi0, hz0, hz1, hz2⟩ := info_parts info3
  have := run_make (P := Tryd.prog) w 29 3 i0 _ Tryd.underlying29 hi0 hz0 .i64 .i64 N N (by omega) (by omega) (by rw [hz2]; omega) (by omega)
  rw [this, hz1, Nat.mul_one, show (Value.int .i64 0).cells = #[Value.int .i64 0] from rfl, madeCells_one]
  rfl
theorem made_ints (N : Nat) (w : World) : Blk (w.alloc (.cells (Array.replicate N (.int .i64 0)) 3)) w.heap.size 3 (nv (List.replicate N 0)) := by
  have := Blk.new w (Array.replicate N (.int .i64 0)) 3
  simpa [nv] using this

/-- The two lists in memory. -/
structure NM (w0 w : World) (kb sb : Nat) (K S : List Nat) : Prop where
  bk : Blk w kb 3 (nv K)
  bs : Blk w sb 3 (nv S)
  ne : kb ≠ sb
  ok : w0.heap.size ≤ kb
  os : w0.heap.size ≤ sb
  chg : Chg (fun _ => False) w0 w
theorem NM.kept {w0 w w' : World} {kb sb : Nat} {K S : List Nat} (h : NM w0 w kb sb K S) (hc : Chg (fun _ => False) w w') : NM w0 w' kb sb K S :=
  ⟨hc.blk h.bk (fun x => x), hc.blk h.bs (fun x => x), h.ne, h.ok, h.os, h.chg.trans hc (fun _ x => x.elim)⟩
theorem NM.setK {w0 w : World} {kb sb : Nat} {K S : List Nat} (h : NM w0 w kb sb K S) (i v : Nat) : NM w0 (w.setCell ⟨kb, i, none⟩ (.int .i64 (v : Int))) kb sb (K.set i v) S :=
  ⟨by rw [nv_set]; exact h.bk.set i _, h.bs.setOther (a := ⟨kb, i, none⟩) h.ne _, h.ne, h.ok, h.os, h.chg.setCell (.inr h.ok) _⟩
theorem NM.setS {w0 w : World} {kb sb : Nat} {K S : List Nat} (h : NM w0 w kb sb K S) (i v : Nat) : NM w0 (w.setCell ⟨sb, i, none⟩ (.int .i64 (v : Int))) kb sb K (S.set i v) :=
  ⟨h.bk.setOther (a := ⟨sb, i, none⟩) (fun e => h.ne e.symm) _, by rw [nv_set]; exact h.bs.set i _, h.ne, h.ok, h.os, h.chg.setCell (.inr h.os) _⟩

set_option maxRecDepth 100000 in
set_option maxHeartbeats 1000000 in
theorem nature_any (V : List (List Nat)) (hV : WF V) (b off cap : Nat) (w : World) (hv : VAt w b off V) :
    Calls Tryd.prog 61 #[.slice (some ⟨b, off, none⟩) V.length cap] w fun e w' => ∃ kb sb, e = .returned (.tuple #[.slice (some ⟨kb, 0, none⟩) V.length V.length, .slice (some ⟨sb, 0, none⟩) V.length V.length]) ∧
      NatsAt w' kb 0 (setF V.length (natK V) V.length) ∧ NatsAt w' sb 0 (setF V.length (natS V) V.length) ∧ Chg (fun _ => False) w w' := by
  have hn6 := hV.le
  have hmi := make_ints V.length (by omega)
  have HWF := Lib.hid hV
  have HV0 := Lib.hid (hv.chg ((Chg.refl (fun _ => False) w).alloc (.cells #[.slice (some ⟨b, off, none⟩) V.length cap] 59)) (fun x => x))
  have HVB0 := Lib.hid ((Blk.new w #[.slice (some ⟨b, off, none⟩) V.length cap] 59).cell_some (i := 0) rfl)
  have HC0 := Lib.hid ((Chg.refl (fun _ => False) w).alloc (.cells #[.slice (some ⟨b, off, none⟩) V.length cap] 59))
  obtain ⟨vb, hvb⟩ : ∃ vb, w.heap.size = vb := ⟨_, rfl⟩
  rw [hvb] at HVB0
  clear hv hV
  go_enter Tryd.func61, Tryd.ntmps61
  have c0 := HVB0.out
  go_wp2_with fail
  clear hvb c0
  generalize w.alloc (.cells #[.slice (some ⟨b, off, none⟩) V.length cap] 59) = W1 at HV0 HVB0 HC0 ⊢
  refine (comes_any V HWF.out b off cap W1 HV0.out).mono ?_
  rintro e W2 ⟨⟨cb, G, rfl, hG, hcm⟩, hc2⟩
  have HM2 := Lib.hid (hcm.mat HWF.out hG)
  have HV2 := Lib.hid (HV0.out.chg hc2 (fun x => x)); have HVB2 := Lib.hid (hc2.cell_some HVB0.out (fun x => x)); have HC2 := Lib.hid (HC0.out.trans hc2 (fun _ x => x.elim))
  clear hcm hG hc2 HV0 HVB0 HC0
  have c0 := HVB2.out
  obtain ⟨mb, hmb⟩ : ∃ mb, W2.heap.size = mb := ⟨_, rfl⟩
  go_upto_region 3 with (fail)
  have HMB3 := Lib.hid (Blk.new W2 #[.slice (some ⟨cb, 0, none⟩) V.length V.length] 75)
  rw [hmb] at HMB3
  obtain ⟨W3, hW3⟩ : ∃ W3, W2.alloc (.cells #[.slice (some ⟨cb, 0, none⟩) V.length V.length] 75) = W3 := ⟨_, rfl⟩
  have HCC := Lib.hid ((Chg.refl (fun _ => False) W2).alloc (.cells #[.slice (some ⟨cb, 0, none⟩) V.length V.length] 75))
  rw [hW3] at HMB3 HCC ⊢
  have HV3 := Lib.hid (HV2.out.chg HCC.out (fun x => x)); have HM3 := Lib.hid (HM2.out.chg HCC.out); have HVB3 := Lib.hid (HCC.out.cell_some HVB2.out (fun x => x)); have HC3 := Lib.hid (HC2.out.trans HCC.out (fun _ x => x.elim))
  clear hW3 hmb HCC HV2 HM2 HVB2 HC2 c0
  go_cut [6, 7] from 15 to 20 (fun kv sv wx => ∃ x y : Nat, kv = .slice (some ⟨x, 0, none⟩) V.length V.length ∧ sv = .slice (some ⟨y, 0, none⟩) V.length V.length ∧ NM W3 wx x y (List.replicate V.length 0) (List.replicate V.length 0))
  case first =>
    obtain ⟨kb, hkb⟩ : ∃ kb, W3.heap.size = kb := ⟨_, rfl⟩
    have c0 := HVB3.out
    have HC0 := (Chg.refl (fun _ => False) W3).alloc (.cells (Array.replicate V.length (.int .i64 0)) 3)
    have c1 := HC0.cell_some HVB3.out (fun x => x)
    have HBA := Lib.hid (made_ints V.length W3)
    have HBB := Lib.hid (made_ints V.length (W3.alloc (.cells (Array.replicate V.length (.int .i64 0)) 3)))
    have HBC := Lib.hid (HBA.out.alloc (.cells (Array.replicate V.length (.int .i64 0)) 3))
    have HCC := Lib.hid (HC0.alloc (.cells (Array.replicate V.length (.int .i64 0)) 3))
    rw [show (W3.alloc (.cells (Array.replicate V.length (.int .i64 0)) 3)).heap.size = kb + 1 by show (W3.heap.push _).size = _; rw [Array.size_push, hkb]] at HBB
    rw [hkb] at HBC
    have HKB := Lib.hid hkb
    clear HC0 HBA
    go_region
    all_goals
      go_wp2_with fail
      go_meet
      case rel =>
        first
        | exact ⟨kb, kb + 1, rfl, rfl, HBC.out.drew, HBB.out.drew, by omega, by rw [HKB.out]; exact Nat.le_refl _, by rw [HKB.out]; omega, HCC.out.drew⟩
        | exact ⟨kb + 1, kb, rfl, rfl, HBB.out.drew, HBC.out.drew, by omega, by rw [HKB.out]; omega, by rw [HKB.out]; exact Nat.le_refl _, HCC.out.drew⟩
  case rest =>
    obtain ⟨kb, sb, rfl, rfl, hnm⟩ := hcut
    have HNM := Lib.hid hnm
    clear hnm
    have c0 := HNM.out.chg.cell_some HVB3.out (fun x => x)
    go_wp2_with fail
    clear c0
    go_loopg [23] V.length (fun gm iv wr => ∃ i : Nat, i ≤ V.length ∧ gm = V.length - i ∧ iv = .int .i64 i ∧ NM W3 wr kb sb (setF V.length (natK V) i) (setF V.length (natS V) i))
    case atStart => exact ⟨0, by omega, by omega, rfl, HNM.out⟩
    case round =>
      clear HNM
      obtain ⟨i, hi, rfl, rfl, hnm⟩ := hrel
      have HNM := Lib.hid hnm
      clear hnm
      by_cases hlt : i < V.length
      · have d0 : decide (i < V.length) = true := by simpa using hlt
        have c0 := HNM.out.chg.cell_some HVB3.out (fun x => x)
        go_wp2_with fail
        clear c0
        go_loopg [28, 10] V.length (fun gm jv bv wr => ∃ j : Nat, j ≤ V.length ∧ gm = V.length - j ∧ jv = .int .i64 j ∧ bv = .bool (wlF V i j) ∧ NM W3 wr kb sb (setF V.length (natK V) i) (setF V.length (natS V) i))
        case atStart => exact ⟨0, by omega, by omega, rfl, rfl, HNM.out⟩
        case round =>
          clear HNM
          obtain ⟨j, hj, rfl, rfl, rfl, hnm⟩ := hrel
          have HNM := Lib.hid hnm
          clear hnm
          have HMW := Lib.hid (HM3.out.chg HNM.out.chg)
          have c0 := HNM.out.chg.cell_some HVB3.out (fun x => x)
          have c1 := HNM.out.chg.cell_some (HMB3.out.cell_some (i := 0) rfl) (fun x => x)
          have hvw := HV3.out.chg HNM.out.chg (fun x => x)
          by_cases hjl : j < V.length
          · have d1 : decide (j < V.length) = true := by simpa using hjl
            have HBK := Lib.hid (back_any V HWF.out j hjl vb mb b off cap cb wr hvw HMW.out c0 c1)
            have hK8 := backV_le HWF.out j
            obtain ⟨g1, m1, m2⟩ := HMW.out i hlt
            have m3 := m2 j hjl
            clear m2 hvw
            have HWS := Lib.hid (show wlF V i (j + 1) = if (cm (comesM V) i j && decide (1 < backV V j)) = true then true else wlF V i j from rfl)
            obtain ⟨x, hx⟩ : ∃ x, cm (comesM V) i j = x := ⟨_, rfl⟩
            obtain ⟨K, hK⟩ : ∃ K, backV V j = K := ⟨_, rfl⟩
            rw [hx] at m3 HWS
            rw [hK] at HBK HWS hK8
            clear hx hK
            cases x
            · go_wp2_with fail
              go_roundg (V.length - (j + 1))
              case measure => omega
              case rel => exact ⟨j + 1, by omega, rfl, by go_num, by rw [HWS.out]; rfl, HNM.out⟩
            · by_cases hK1 : 1 < K
              all_goals
                go_wp2_with fail
                refine HBK.out.mono ?_
                rintro e w2 ⟨rfl, hc2⟩
                have HNM2 := Lib.hid (HNM.out.kept hc2)
                clear hc2
                go_wp2_with fail
                go_roundg (V.length - (j + 1))
                case measure => omega
                case rel => exact ⟨j + 1, by omega, rfl, by go_num, by rw [HWS.out]; simp [hK1], HNM2.out⟩
          · obtain rfl : j = V.length := by omega
            have HCH := Lib.hid (chain_any V HWF.out vb mb b off cap cb V.length i hlt (rk_le V i) (Nat.le_refl _) wr hvw HMW.out c0 c1)
            have hch := chF_le V V.length i
            clear hvw HMW
            have HS := Lib.hid (show natS V i = if wlF V i V.length = true then 0 else chF V V.length i from rfl)
            have HK := Lib.hid (show natK V i = if wlF V i V.length = true then 3 else if 1 < natS V i then 2 else if natS V i = 1 then 1 else 0 from rfl)
            have HSZ := Lib.hid (setF_zero V.length (natK V) i hlt)
            have HS1 := Lib.hid (show setF V.length (natS V) (i + 1) = (setF V.length (natS V) i).set i (natS V i) from rfl)
            have HK1 := Lib.hid (show setF V.length (natK V) (i + 1) = (setF V.length (natK V) i).set i (natK V i) from rfl)
            obtain ⟨y, hy⟩ : ∃ y, wlF V i V.length = y := ⟨_, rfl⟩
            rw [hy] at HS HK ⊢
            clear hy
            cases y
            · rw [if_neg (by simp)] at HS HK
              obtain ⟨sz, hsz⟩ : ∃ sz, chF V V.length i = sz := ⟨_, rfl⟩
              rw [hsz] at HCH HS hch
              rw [HS.out] at HK HS1
              clear hsz c0 c1
              have c0 := HNM.out.chg.cell_some HVB3.out (fun x => x)
              have c1 := HNM.out.chg.cell_some (HMB3.out.cell_some (i := 0) rfl) (fun x => x)
              by_cases h1 : 1 < sz
              · rw [if_pos h1] at HK
                rw [HK.out] at HK1
                go_wp2_with fail
                refine HCH.out.mono ?_
                rintro e w2 ⟨rfl, hc2⟩
                have HNM2 := Lib.hid (HNM.out.kept hc2)
                clear hc2 c0 c1
                have s1 := HNM2.out.bs.cell_some (nv_at (i := i) (by rw [setF_len]; exact hlt))
                have s2 := HNM2.out.bs.free i
                have k1 := HNM2.out.bk.cell_some (nv_at (i := i) (by rw [setF_len]; exact hlt))
                have k2 := HNM2.out.bk.free i
                have hne := HNM2.out.ne
                go_wp2_with fail
                go_roundg (V.length - (i + 1))
                case measure => omega
                case rel => exact ⟨i + 1, by omega, rfl, by go_num, by rw [HS1.out, HK1.out]; exact (HNM2.out.setS i sz).setK i 2⟩
              · rw [if_neg h1] at HK
                by_cases h2 : sz = 1
                · rw [if_pos h2] at HK
                  rw [HK.out] at HK1
                  subst h2
                  go_wp2_with fail
                  refine HCH.out.mono ?_
                  rintro e w2 ⟨rfl, hc2⟩
                  have HNM2 := Lib.hid (HNM.out.kept hc2)
                  clear hc2 c0 c1
                  have s1 := HNM2.out.bs.cell_some (nv_at (i := i) (by rw [setF_len]; exact hlt))
                  have s2 := HNM2.out.bs.free i
                  have k1 := HNM2.out.bk.cell_some (nv_at (i := i) (by rw [setF_len]; exact hlt))
                  have k2 := HNM2.out.bk.free i
                  have hne := HNM2.out.ne
                  go_wp2_with fail
                  go_roundg (V.length - (i + 1))
                  case measure => omega
                  case rel => exact ⟨i + 1, by omega, rfl, by go_num, by rw [HS1.out, HK1.out]; exact (HNM2.out.setS i 1).setK i 1⟩
                · rw [if_neg h2] at HK
                  have HKZ := Lib.hid (HSZ.out HK.out)
                  go_wp2_with fail
                  refine HCH.out.mono ?_
                  rintro e w2 ⟨rfl, hc2⟩
                  have HNM2 := Lib.hid (HNM.out.kept hc2)
                  clear hc2 c0 c1
                  have s1 := HNM2.out.bs.cell_some (nv_at (i := i) (by rw [setF_len]; exact hlt))
                  have s2 := HNM2.out.bs.free i
                  go_wp2_with fail
                  go_roundg (V.length - (i + 1))
                  case measure => omega
                  case rel => exact ⟨i + 1, by omega, rfl, by go_num, by rw [HS1.out, HKZ.out]; exact HNM2.out.setS i sz⟩
            · rw [if_pos rfl] at HS HK
              rw [HS.out] at HS1
              rw [HK.out] at HK1
              clear HCH hch c0 c1
              have s1 := HNM.out.bs.cell_some (nv_at (i := i) (by rw [setF_len]; exact hlt))
              have s2 := HNM.out.bs.free i
              have k1 := HNM.out.bk.cell_some (nv_at (i := i) (by rw [setF_len]; exact hlt))
              have k2 := HNM.out.bk.free i
              have hne := HNM.out.ne
              go_wp2_with fail
              go_roundg (V.length - (i + 1))
              case measure => omega
              case rel => exact ⟨i + 1, by omega, rfl, by go_num, by rw [HS1.out, HK1.out]; exact (HNM.out.setS i 0).setK i 3⟩
      · obtain rfl : i = V.length := by omega
        go_wp2_with fail
        go_ret2
        exact ⟨kb, sb, rfl, nats_of_blk HNM.out.bk, nats_of_blk HNM.out.bs, HC3.out.trans HNM.out.chg (fun _ x => x.elim)⟩
end Go.Proofs.YtilacamhjibneaaDoor

/- Kind, walked. Its conditions are its premises. -/
namespace Go.Proofs.YtilacamhjibneaaDoor
open Go.RowKit

def mxL (g : Nat → Nat) (t : List Nat) : Nat → Nat
  | 0 => 0
  | k + 1 => max (mxL g t k) (g (at0 t k))
theorem mxL_le (g : Nat → Nat) (t : List Nat) (m : Nat) (h : ∀ c, g c ≤ m) : ∀ k, mxL g t k ≤ m
  | 0 => Nat.zero_le _
  | k + 1 => by have := mxL_le g t m h k; have := h (at0 t k); unfold mxL; omega
theorem natK_le (V : List (List Nat)) (i : Nat) : natK V i ≤ 3 := by
  unfold natK
  split
  · omega
  · split
    · omega
    · split <;> omega
theorem natS_le (V : List (List Nat)) (i : Nat) : natS V i ≤ V.length := by
  have := chF_le V V.length i
  unfold natS
  split <;> omega
def kindB (V : List (List Nat)) (t : List Nat) : Nat := mxL (natK V) t t.length
def kindM (V : List (List Nat)) (t : List Nat) : Nat := mxL (natS V) t t.length
def kindV (V : List (List Nat)) (t : List Nat) : Value := if kindB V t = 2 then .tuple #[.int .i64 2, .int .i64 ((kindM V t : Int) - 1), .int .i64 0] else .tuple #[.int .i64 (kindB V t : Int), .int .i64 0, .int .i64 0]

set_option maxRecDepth 100000 in
set_option maxHeartbeats 1000000 in
theorem kind_ok (V : List (List Nat)) (hV : WF V) (t : List Nat) (ht : ∀ c ∈ t, c < V.length) (hl : t.length ≤ 30) (b off cap : Nat) (w : World) (hv : VAt w b off V) :
    Calls Tryd.prog 24 #[.slice (some ⟨b, off, none⟩) V.length cap, .string (str t)] w fun e w' => e = .returned (kindV V t) ∧ Chg (fun _ => False) w w' := by
  have hn6 := hV.le
  have HS := Lib.hid (shot_ok V hV t ht hl b off cap w hv)
  have HN := Lib.hid (nature_any V hV b off cap w hv)
  have HT := Lib.hid ht
  have HKV := Lib.hid (show kindV V t = if kindB V t = 2 then .tuple #[.int .i64 2, .int .i64 ((kindM V t : Int) - 1), .int .i64 0] else .tuple #[.int .i64 (kindB V t : Int), .int .i64 0, .int .i64 0] from rfl)
  have hpc : ∀ c ∈ t, c < 100 := fun c hc => by have := ht c hc; omega
  clear hv hV ht
  go_enter Tryd.func24, Tryd.ntmps24
  go_wp2_with fail
  refine HS.out.mono ?_
  rintro e w1 ⟨rfl, rfl⟩
  go_wp2_with fail
  refine HN.out.mono ?_
  rintro e w2 ⟨kb, sb, rfl, hk, hs, hc2⟩
  have HK := Lib.hid hk; have HSS := Lib.hid hs; have HC2 := Lib.hid hc2
  clear hk hs hc2
  obtain ⟨cc, w9, hcv, hby, hc9, hsz9⟩ := conv_bytes t hpc w2
  obtain ⟨pb, hpb⟩ : ∃ pb, w2.heap.size = pb := ⟨_, rfl⟩
  rw [hpb] at hcv hby hsz9
  have HBY := Lib.hid hby
  have HK9 := Lib.hid (HK.out.chg hc9 (fun x => x)); have HS9 := Lib.hid (HSS.out.chg hc9 (fun x => x)); have HC9 := Lib.hid (HC2.out.trans hc9 (fun _ x => x.elim))
  clear hpb hpc hby hsz9 hc9 HK HSS HC2
  go_wp2_with fail
  clear hcv
  go_loopg [32, 11, 12] t.length (fun gm iv kv mv wr => ∃ k : Nat, k ≤ t.length ∧ gm = t.length - k ∧ iv = .int .i64 k ∧ kv = .int .i64 (mxL (natK V) t k) ∧ mv = .int .i64 (mxL (natS V) t k) ∧ ∃ n : Nat, wr = w9.drewN n)
  case atStart => exact ⟨0, by omega, by omega, rfl, rfl, rfl, 0, rfl⟩
  case round =>
    obtain ⟨k, hk, rfl, rfl, rfl, rfl, n, rfl⟩ := hrel
    have hKl := mxL_le (natK V) t 3 (natK_le V) k
    have hSl := mxL_le (natS V) t V.length (natS_le V) k
    by_cases hlt : k < t.length
    · have d0 : decide (k < t.length) = true := by simpa using hlt
      have hcn := HT.out _ (List.getElem_mem hlt)
      have y1 := HBY.out k hlt
      have hu8 := u8_chr t[k] (by omega)
      have k1 := nats_at HK9.out (i := t[k]) (by rw [setF_len]; exact hcn)
      have s1 := nats_at HS9.out (i := t[k]) (by rw [setF_len]; exact hcn)
      rw [setF_at _ _ _ hcn _ (Nat.le_refl _), if_pos hcn, Nat.zero_add] at k1 s1
      have hkl := natK_le V t[k]
      have hsl := natS_le V t[k]
      have HKK := Lib.hid (show mxL (natK V) t (k + 1) = max (mxL (natK V) t k) (natK V t[k]) by rw [mxL, at0_lt_of hlt])
      have HSK := Lib.hid (show mxL (natS V) t (k + 1) = max (mxL (natS V) t k) (natS V t[k]) by rw [mxL, at0_lt_of hlt])
      obtain ⟨c, hc⟩ : ∃ c, t[k] = c := ⟨_, rfl⟩
      rw [hc] at hcn hu8 y1 k1 s1 hkl hsl HKK HSK
      obtain ⟨C, hC⟩ : ∃ C, 97 + c = C := ⟨_, rfl⟩
      rw [hC] at hu8 y1
      clear hc hC
      have hci : (c : Int) < (V.length : Int) := by omega
      obtain ⟨x, hx⟩ : ∃ x, natK V c = x := ⟨_, rfl⟩
      obtain ⟨y, hy⟩ : ∃ y, natS V c = y := ⟨_, rfl⟩
      obtain ⟨K, hK⟩ : ∃ K, mxL (natK V) t k = K := ⟨_, rfl⟩
      obtain ⟨S, hS⟩ : ∃ S, mxL (natS V) t k = S := ⟨_, rfl⟩
      rw [hx] at k1 hkl HKK
      rw [hy] at s1 hsl HSK
      rw [hK] at hKl HKK ⊢
      rw [hS] at hSl HSK ⊢
      clear hx hy hK hS
      go_wp2_with fail
      go_region
      go_wp2_with fail
      go_roundg (t.length - (k + 1))
      case measure => omega
      case rel => exact ⟨k + 1, by omega, rfl, by go_num, by rw [HKK.out]; congr 1; omega, by rw [HSK.out]; congr 1; omega, n + 1, rfl⟩
    · obtain rfl : k = t.length := by omega
      rw [show kindB V t = mxL (natK V) t t.length from rfl, show kindM V t = mxL (natS V) t t.length from rfl] at HKV
      obtain ⟨K, hK⟩ : ∃ K, mxL (natK V) t t.length = K := ⟨_, rfl⟩
      obtain ⟨S, hS⟩ : ∃ S, mxL (natS V) t t.length = S := ⟨_, rfl⟩
      rw [hK] at hKl HKV ⊢
      rw [hS] at hSl HKV ⊢
      clear hK hS
      have hw : wrap64 ((S : Int) - 1) = (S : Int) - 1 := by unfold wrap64; omega
      by_cases h2 : K = 2
      · subst h2
        have HR := Lib.hid (HKV.out.trans (if_pos rfl))
        go_wp2_with fail
        go_ret3
        refine ⟨?_, HC9.out.drewN _⟩
        rw [HR.out]
        rfl
      · have HR := Lib.hid (HKV.out.trans (if_neg h2))
        go_wp2_with fail
        go_ret3
        refine ⟨?_, HC9.out.drewN _⟩
        rw [HR.out]
        rfl
end Go.Proofs.YtilacamhjibneaaDoor
