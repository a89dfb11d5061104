/- two and Both where a vine or a shoot is refused. Their conditions are their premises. -/
import Derived.Test.YtilacamhjibneaaDoorV45
set_option linter.unusedVariables false
namespace Go.Proofs.YtilacamhjibneaaDoor
open Go.RowKit

def bothE (P : List ByteArray) (s : ByteArray) (Q : List ByteArray) (u : ByteArray) : Nat := if errS P s = 0 then errS Q u else errS P s
/-- What is small enough, with its cells. -/
structure Sm (w : World) (P : List ByteArray) (s : ByteArray) (ao : Option Addr) (b off : Nat) : Prop where
  at_ : StrsAt w b off P
  ao : P = [] ∨ ao = some ⟨b, off, none⟩
  n : P.length ≤ 1000
  z : ∀ p ∈ P, p.size ≤ 1000
  zs : s.size ≤ 1000
theorem two_err (P : List ByteArray) (s : ByteArray) (ao : Option Addr) (cap b off : Nat) (Q : List ByteArray) (u : ByteArray) (bo : Option Addr) (cap2 b2 off2 : Nat) (w : World) (h1 : Sm w P s ao b off) (h2 : Sm w Q u bo b2 off2) (he : ¬ bothE P s Q u = 0) :
    Calls Tryd.prog 79 #[.slice ao P.length cap, .string s, .slice bo Q.length cap2, .string u] w fun e w' => (∃ x y, e = .returned (.tuple #[x, y, .int .i64 (bothE P s Q u : Nat)])) ∧ w' = w := by
  have H1 := Lib.hid (shot_any P s ao cap b off w h1.at_ h1.ao h1.n h1.z h1.zs)
  have H2 := Lib.hid (shot_any Q u bo cap2 b2 off2 w h2.at_ h2.ao h2.n h2.z h2.zs)
  by_cases hp : errS P s = 0
  · have hb : bothE P s Q u = errS Q u := if_pos hp
    rw [show shotV ao cap P s = .tuple #[.slice ao P.length cap, .int .i64 0] by unfold shotV; rw [if_pos hp]] at H1
    rw [hb] at he ⊢
    rw [show shotV bo cap2 Q u = .tuple #[.slice none 0 0, .int .i64 (errS Q u : Nat)] by unfold shotV; rw [if_neg he]] at H2
    obtain ⟨E, hE⟩ : ∃ E, errS Q u = E := ⟨_, rfl⟩
    rw [hE] at H2 ⊢
    clear h1 h2 he hp hb hE
    go_enter Tryd.func79, Tryd.ntmps79
    go_wp2_with fail
    refine H1.out.mono ?_
    rintro e w1 ⟨rfl, rfl⟩
    go_wp2_with fail
    refine H2.out.mono ?_
    rintro e w1 ⟨rfl, rfl⟩
    go_wp2_with fail
    go_ret3
    exact ⟨⟨_, _, rfl⟩, rfl⟩
  · have hb : bothE P s Q u = errS P s := if_neg hp
    rw [hb]
    rw [show shotV ao cap P s = .tuple #[.slice none 0 0, .int .i64 (errS P s : Nat)] by unfold shotV; rw [if_neg hp]] at H1
    obtain ⟨E, hE⟩ : ∃ E, errS P s = E := ⟨_, rfl⟩
    rw [hE] at H1 hp ⊢
    have dn : (((E : Nat) : Int) != 0) = true := by simpa using hp
    clear h1 h2 he hp hb hE H2
    go_enter Tryd.func79, Tryd.ntmps79
    go_wp2_with fail
    refine H1.out.mono ?_
    rintro e w1 ⟨rfl, rfl⟩
    go_wp2_with fail
    go_ret3
    exact ⟨⟨_, _, rfl⟩, rfl⟩
theorem both_any (P : List ByteArray) (s : ByteArray) (ao : Option Addr) (cap b off : Nat) (Q : List ByteArray) (u : ByteArray) (bo : Option Addr) (cap2 b2 off2 : Nat) (w : World) (h1 : Sm w P s ao b off) (h2 : Sm w Q u bo b2 off2) :
    Calls Tryd.prog 80 #[.slice ao P.length cap, .string s, .slice bo Q.length cap2, .string u] w fun e w' => e = .returned (.int .i64 (bothE P s Q u : Nat)) ∧ w' = w := by
  have H1 := Lib.hid (rshoot_any P s ao cap b off w h1.at_ h1.ao h1.n h1.z h1.zs)
  have H2 := Lib.hid (rshoot_any Q u bo cap2 b2 off2 w h2.at_ h2.ao h2.n h2.z h2.zs)
  by_cases hp : errS P s = 0
  · have hb : bothE P s Q u = errS Q u := if_pos hp
    rw [hb]
    rw [hp] at H1
    clear h1 h2 hp hb
    go_enter Tryd.func80, Tryd.ntmps80
    go_wp2_with fail
    refine H1.out.mono ?_
    rintro e w1 ⟨rfl, rfl⟩
    go_wp2_with fail
    refine H2.out.mono ?_
    rintro e w1 ⟨rfl, rfl⟩
    go_wp2_with fail
    go_ret
    exact ⟨rfl, rfl⟩
  · have hb : bothE P s Q u = errS P s := if_neg hp
    rw [hb]
    obtain ⟨E, hE⟩ : ∃ E, errS P s = E := ⟨_, rfl⟩
    rw [hE] at H1 hp ⊢
    have dn : (((E : Nat) : Int) == 0) = false := by simpa using hp
    clear h1 h2 hp hb hE H2
    go_enter Tryd.func80, Tryd.ntmps80
    go_wp2_with fail
    refine H1.out.mono ?_
    rintro e w1 ⟨rfl, rfl⟩
    go_wp2_with fail
    go_ret
    exact ⟨rfl, rfl⟩
end Go.Proofs.YtilacamhjibneaaDoor
