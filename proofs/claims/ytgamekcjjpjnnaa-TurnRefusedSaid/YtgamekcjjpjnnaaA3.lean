/- turn.of, the reference's step, and the statements' own small functions: what each returns. The conditions of each are its premises. -/
import Derived.Test.YtgamekcjjpjnnaaA2
set_option linter.unusedVariables false
namespace Go.Proofs.Ytgamekcjjpjnnaa
open Go.RowKit

/-- A plan in memory: a round, how many events, the spans. -/
def PlanAt (w : World) (p : Nat) (t n : Int) (v : Value) : Prop :=
  w.cell? ⟨p, 0, none⟩ = some (.int .i64 t) ∧ w.cell? ⟨p, 1, none⟩ = some (.int .i64 n) ∧ w.cell? ⟨p, 2, none⟩ = some v

theorem PlanAt.grow {w : World} {p : Nat} {t n : Int} {v : Value} (h : PlanAt w p t n v) (x : Ext) : PlanAt (w.grow x) p t n v :=
  ⟨World.grow_cell h.1 x, World.grow_cell h.2.1 x, World.grow_cell h.2.2 x⟩

/-- What turn.of leaves: an error, or a new plan. -/
def OfPost (t n : Int) (l : List Sp) (v : Value) (w : World) (e : Ending) (w' : World) : Prop :=
  (∃ x, w' = w.grow x) ∧ ((spansE t n l ≠ 0 ∧ e = .returned (.tuple #[.pointer none, .int .i64 (spansE t n l)])) ∨
    (spansE t n l = 0 ∧ ∃ p, e = .returned (.tuple #[.pointer (some ⟨p, 0, none⟩), .int .i64 0]) ∧ PlanAt w' p t n v ∧ w.heap.size ≤ p))

theorem ofPost_err {t n : Int} {l : List Sp} {v : Value} {w w' : World} {c : Int} (h : c = spansE t n l) (h0 : c ≠ 0) (hw : ∃ x, w' = w.grow x) :
    OfPost t n l v w (.returned (.tuple #[.pointer none, .int .i64 c])) w' := ⟨hw, .inl (by subst h; exact ⟨h0, rfl⟩)⟩

set_option maxHeartbeats 1000000 in
theorem of_loop (t n : Int) (l : List Sp) (a : Option Addr) (cap : Nat) (w : World) (b off : Nat) (hs : SpansAt w b off l) (ha : l = [] ∨ a = some ⟨b, off, none⟩)
    (ht : 1 ≤ t) (ht2 : t ≤ 24) (hn : 1 ≤ n) (hn2 : n ≤ 6) (hl : l.length ≤ 20) :
    Calls Try.prog 43 #[.int .i64 t, .int .i64 n, .slice a l.length cap] w (OfPost t n l (.slice a l.length cap) w) := by
  have h1 : decide (t < 1) = false := by simp; omega
  have h2 : decide (24 < t) = false := by simp; omega
  have h3 : decide (n < 1) = false := by simp; omega
  have h4 : decide (6 < n) = false := by simp; omega
  have h5 : decide (20 < (l.length : Int)) = false := by simp; omega
  go_enter Try.func43, Try.ntmps43
  go_wp2
  go_loopw [31] (fun i wr => ∃ k : Nat, i = .int .i64 k ∧ k ≤ l.length ∧ (∀ j (h : j < l.length), j < k → ¬ l[j].bad t n) ∧ ∃ x, wr = w.grow x) (fun i _ => l.length - (intOf i).toNat)
  case atStart => exact ⟨0, rfl, by omega, by omega, w.grow_refl⟩
  case round =>
    obtain ⟨k, rfl, hk, hbad, x, rfl⟩ := hrel
    by_cases hlt : k < l.length
    · have hne : a = some ⟨b, off, none⟩ := ha.resolve_left (by intro h; simp [h] at hlt)
      subst hne
      obtain ⟨c0, c1, c2, c3⟩ := hs k hlt
      have g0 := World.grow_cell c0 x; have g1 := World.grow_cell c1 x; have g2 := World.grow_cell c2 x; have g3 := World.grow_cell c3 x
      clear c0 c1 c2 c3 ha hs
      have HB := Lib.hid hbad; clear hbad
      go_wp2
      iterate 9
        rotate_left 1
      · go_roundw
        case rel => exact ⟨k + 1, by go_num, by omega, fun j h hj => by
          rcases Nat.lt_succ_iff_lt_or_eq.1 hj with h' | rfl
          · exact HB.out j h h'
          · unfold Sp.bad; omega, grow_alloc _ _ _⟩
        case measure => simp [intOf]; omega
      all_goals
        go_ret2
        exact ofPost_err (spansE_bad ht ht2 hn hn2 hl hlt (by unfold Sp.bad; omega)) (by omega) (grow_alloc _ _ _)
    · go_wp2
      go_ret2
      exact ⟨grow_alloc _ _ _, .inr ⟨(spansE_good ht ht2 hn hn2 hl (fun j h => hbad j h (by omega))).symm, _, rfl, ⟨by go_simp, by go_simp, by go_simp⟩, (World.grow_below w x).size⟩⟩

theorem of_any (t n : Int) (l : List Sp) (a : Option Addr) (cap : Nat) (w : World) (b off : Nat) (hs : SpansAt w b off l) (ha : l = [] ∨ a = some ⟨b, off, none⟩) :
    Calls Try.prog 43 #[.int .i64 t, .int .i64 n, .slice a l.length cap] w (OfPost t n l (.slice a l.length cap) w) := by
  by_cases h : t < 1 ∨ 24 < t ∨ n < 1 ∨ 6 < n
  · have he := Lib.hid (show 2 = spansE t n l by unfold spansE; rw [if_pos h])
    go_enter Try.func43, Try.ntmps43
    go_wp2
    all_goals first
      | (go_ret2; exact ofPost_err he.out (by omega) w.grow_refl)
      | (exfalso; omega)
  · by_cases hl : l.length ≤ 20
    · exact of_loop t n l a cap w b off hs ha (by omega) (by omega) (by omega) (by omega) hl
    · have he := Lib.hid (show 3 = spansE t n l by unfold spansE; rw [if_neg h, if_pos (by omega)])
      have h1 : decide (t < 1) = false := by simp; omega
      have h2 : decide (24 < t) = false := by simp; omega
      have h3 : decide (n < 1) = false := by simp; omega
      have h4 : decide (6 < n) = false := by simp; omega
      have h5 : decide (20 < (l.length : Int)) = true := by simp; omega
      go_enter Try.func43, Try.ntmps43
      go_wp2
      go_ret2
      exact ofPost_err he.out (by omega) w.grow_refl
end Go.Proofs.Ytgamekcjjpjnnaa
