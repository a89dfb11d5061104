/- Same and Alike, both, where a vine or a shoot is refused. Their conditions are their premises. -/
import Derived.Test.YtilacamhjibneaaDoorV46
set_option linter.unusedVariables false
namespace Go.Proofs.YtilacamhjibneaaDoor
open Go.RowKit

theorem same_err (P : List ByteArray) (s : ByteArray) (ao : Option Addr) (cap b off : Nat) (Q : List ByteArray) (u : ByteArray) (bo : Option Addr) (cap2 b2 off2 : Nat) (w : World) (h1 : Sm w P s ao b off) (h2 : Sm w Q u bo b2 off2) (he : ¬ bothE P s Q u = 0) :
    Calls Tryd.prog 37 #[.slice ao P.length cap, .string s, .slice bo Q.length cap2, .string u] w fun e w' => e = .returned (.tuple #[.int .i64 0, .int .i64 (bothE P s Q u : Nat)]) ∧ w' = w := by
  have H := Lib.hid (two_err P s ao cap b off Q u bo cap2 b2 off2 w h1 h2 he)
  obtain ⟨E, hE⟩ : ∃ E, bothE P s Q u = E := ⟨_, rfl⟩
  rw [hE] at H he ⊢
  have dn : (((E : Nat) : Int) != 0) = true := by simpa using he
  clear h1 h2 he hE
  go_enter Tryd.func37, Tryd.ntmps37
  go_wp2_with fail
  refine H.out.mono ?_
  rintro e w1 ⟨⟨x, y, rfl⟩, rfl⟩
  go_wp2_with fail
  go_ret2
  exact ⟨rfl, rfl⟩

theorem alike_err (P : List ByteArray) (s : ByteArray) (ao : Option Addr) (cap b off : Nat) (Q : List ByteArray) (u : ByteArray) (bo : Option Addr) (cap2 b2 off2 : Nat) (w : World) (h1 : Sm w P s ao b off) (h2 : Sm w Q u bo b2 off2) (he : ¬ bothE P s Q u = 0) :
    Calls Tryd.prog 39 #[.slice ao P.length cap, .string s, .slice bo Q.length cap2, .string u] w fun e w' => e = .returned (.tuple #[.int .i64 0, .int .i64 (bothE P s Q u : Nat)]) ∧ w' = w := by
  have H := Lib.hid (two_err P s ao cap b off Q u bo cap2 b2 off2 w h1 h2 he)
  obtain ⟨E, hE⟩ : ∃ E, bothE P s Q u = E := ⟨_, rfl⟩
  rw [hE] at H he ⊢
  have dn : (((E : Nat) : Int) != 0) = true := by simpa using he
  clear h1 h2 he hE
  go_enter Tryd.func39, Tryd.ntmps39
  go_wp2_with fail
  refine H.out.mono ?_
  rintro e w1 ⟨⟨x, y, rfl⟩, rfl⟩
  go_wp2_with fail
  go_ret2
  exact ⟨rfl, rfl⟩

theorem rsame_err (P : List ByteArray) (s : ByteArray) (ao : Option Addr) (cap b off : Nat) (Q : List ByteArray) (u : ByteArray) (bo : Option Addr) (cap2 b2 off2 : Nat) (w : World) (h1 : Sm w P s ao b off) (h2 : Sm w Q u bo b2 off2) (he : ¬ bothE P s Q u = 0) :
    Calls Tryd.prog 38 #[.slice ao P.length cap, .string s, .slice bo Q.length cap2, .string u] w fun e w' => e = .returned (.tuple #[.int .i64 0, .int .i64 (bothE P s Q u : Nat)]) ∧ w' = w := by
  have H := Lib.hid (both_any P s ao cap b off Q u bo cap2 b2 off2 w h1 h2)
  obtain ⟨E, hE⟩ : ∃ E, bothE P s Q u = E := ⟨_, rfl⟩
  rw [hE] at H he ⊢
  have dn : (((E : Nat) : Int) != 0) = true := by simpa using he
  clear h1 h2 he hE
  go_enter Tryd.func38, Tryd.ntmps38
  go_wp2_with fail
  refine H.out.mono ?_
  rintro e w1 ⟨rfl, rfl⟩
  go_wp2_with fail
  go_ret2
  exact ⟨rfl, rfl⟩

theorem ralike_err (P : List ByteArray) (s : ByteArray) (ao : Option Addr) (cap b off : Nat) (Q : List ByteArray) (u : ByteArray) (bo : Option Addr) (cap2 b2 off2 : Nat) (w : World) (h1 : Sm w P s ao b off) (h2 : Sm w Q u bo b2 off2) (he : ¬ bothE P s Q u = 0) :
    Calls Tryd.prog 40 #[.slice ao P.length cap, .string s, .slice bo Q.length cap2, .string u] w fun e w' => e = .returned (.tuple #[.int .i64 0, .int .i64 (bothE P s Q u : Nat)]) ∧ w' = w := by
  have H := Lib.hid (both_any P s ao cap b off Q u bo cap2 b2 off2 w h1 h2)
  obtain ⟨E, hE⟩ : ∃ E, bothE P s Q u = E := ⟨_, rfl⟩
  rw [hE] at H he ⊢
  have dn : (((E : Nat) : Int) != 0) = true := by simpa using he
  clear h1 h2 he hE
  go_enter Tryd.func40, Tryd.ntmps40
  go_wp2_with fail
  refine H.out.mono ?_
  rintro e w1 ⟨rfl, rfl⟩
  go_wp2_with fail
  go_ret2
  exact ⟨rfl, rfl⟩
end Go.Proofs.YtilacamhjibneaaDoor
