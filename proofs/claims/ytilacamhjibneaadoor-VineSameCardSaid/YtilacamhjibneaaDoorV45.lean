/- Bytes that grew, as a string. Their conditions are their premises. -/
import Derived.Test.YtilacamhjibneaaDoorV44
import Derived.Lib.BufferRead
set_option linter.unusedVariables false
namespace Go.Proofs.YtilacamhjibneaaDoor
open Go.RowKit

theorem conv_out {w : World} {base : Nat} {v : Value} {l : List Nat} (h : OutB w base v l) (hc : ∀ c ∈ l, c < 100) : (convert 52 9 v).run Tryd.prog w = .ok (.string (str l)) w := by
  rcases h with ⟨rfl, rfl⟩ | ⟨g, c, rfl, _, hq⟩
  · have := Lib.run_convert_nil_bytes (P := Tryd.prog) w 52 9 5 0 Tryd.underlying52 Tryd.underlying5 Tryd.underlying9
    rw [this]
    rfl
  · have hu : U8At w g 0 l := fun k hk => by
      have := hq.at_ _ _ (u8V_at hk)
      rw [Nat.zero_add, this, at0_lt_of hk]
    have := back_str (cap := c) (i := 0) (len := l.length) hu (by omega) hc
    rw [List.drop_zero, List.take_length] at this
    exact this
end Go.Proofs.YtilacamhjibneaaDoor
