/- An argument that is one span, opened. No condition. -/
import Derived.Test.YtgamekcjjpjnnaaOpen
set_option linter.unusedVariables false
namespace Go.Proofs.Ytgamekcjjpjnnaa
open Go.ChangeShapes Go.WideShapes Go.ChangeAt Go.RowKit Go.Deep Go.Joins

theorem open_span_arg {H : Type} {enc : TypeId × Value → H} {w W : World} {base b0 : Nat} {spare : Nat → Bool} {held : Bool} {r : Reach} {v : Value} {d : DataW H} {p : List MemPlace}
    (hv : Value.okWide Try.prog W r b0 32 v) (h : DataW.Trod enc Try.prog w base spare held 32 v d p) : ∃ s : Sp, s.I64 ∧ v = .agg #[.int .i64 s.src, .int .i64 s.dst, .int .i64 s.lo, .int .i64 s.hi] := by
  obtain ⟨cs, rfl, hsz⟩ := okWide_struct Try.underlying32 hv
  obtain ⟨fuel, hf⟩ := h
  obtain ⟨s, hs, he⟩ := open_span hf
  refine ⟨s, hs, ?_⟩
  have : cs.toList = [.int .i64 s.src, .int .i64 s.dst, .int .i64 s.lo, .int .i64 s.hi] := by simpa [Value.cells] using he
  congr 1
  exact Array.toList_inj.1 this
end Go.Proofs.Ytgamekcjjpjnnaa
