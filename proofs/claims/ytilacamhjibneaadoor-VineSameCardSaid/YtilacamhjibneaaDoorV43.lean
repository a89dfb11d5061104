/- Alike, walked. Its conditions are its premises. -/
import Derived.Test.YtilacamhjibneaaDoorV42
set_option linter.unusedVariables false
namespace Go.Proofs.YtilacamhjibneaaDoor
open Go.RowKit

theorem str_inj {l m : List Nat} (hl : ∀ c ∈ l, c < 100) (hm : ∀ c ∈ m, c < 100) (h : str l = str m) : l = m := kl_inj hl hm (by unfold kl; rw [h])
/-- The first year, from y on, in which the shoots differ. -/
def alkF (V : List (List Nat)) (t : List Nat) (W : List (List Nat)) (u : List Nat) : Nat → Nat → Value
  | 0, _ => .tuple #[.int .i64 0, .int .i64 10]
  | f + 1, y => if ¬ ln V t y = ln W u y then .tuple #[.int .i64 (y : Int), .int .i64 0] else if 100000 < ln V t y then .tuple #[.int .i64 0, .int .i64 8] else if ¬ gen V y t = gen W y u then .tuple #[.int .i64 (y : Int), .int .i64 0] else alkF V t W u f (y + 1)
theorem alkF_ne {V : List (List Nat)} {t : List Nat} {W : List (List Nat)} {u : List Nat} {f y : Nat} (h : ln V t y ≤ 100000) (hn : ¬ gen V y t = gen W y u) : alkF V t W u (f + 1) y = .tuple #[.int .i64 (y : Int), .int .i64 0] := by
  rw [alkF]
  by_cases hl : ln V t y = ln W u y
  · rw [if_neg (by simpa using hl), if_neg (by omega), if_pos hn]
  · rw [if_pos hl]
theorem alkF_eq {V : List (List Nat)} {t : List Nat} {W : List (List Nat)} {u : List Nat} {f y : Nat} (h : ln V t y ≤ 100000) (he : gen V y t = gen W y u) : alkF V t W u (f + 1) y = alkF V t W u f (y + 1) := by
  rw [alkF, if_neg (by unfold ln; rw [he]; simp), if_neg (by omega), if_neg (by simpa using he)]
theorem alkF_len {V : List (List Nat)} {t : List Nat} {W : List (List Nat)} {u : List Nat} {f y : Nat} (h : ¬ ln V t y = ln W u y) : alkF V t W u (f + 1) y = .tuple #[.int .i64 (y : Int), .int .i64 0] := by
  rw [alkF, if_pos h]
theorem alkF_full {V : List (List Nat)} {t : List Nat} {W : List (List Nat)} {u : List Nat} {f y : Nat} (h : ln V t y = ln W u y) (hb : 100000 < ln V t y) : alkF V t W u (f + 1) y = .tuple #[.int .i64 0, .int .i64 8] := by
  rw [alkF, if_neg (by simpa using h), if_pos hb]
end Go.Proofs.YtilacamhjibneaaDoor
