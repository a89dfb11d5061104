/- Lists that are compared or only measured, and one step of a ring: what each function returns. The conditions of each are its premises. -/
import Derived.Test.YtgamekcjjpjnnaaA1
set_option linter.unusedVariables false
namespace Go.Proofs.Ytgamekcjjpjnnaa
open Go.RowKit

theorem few_any (a1 a2 a3 : Option Addr) (n1 n2 n3 c1 c2 c3 : Nat) (w : World) :
    Calls Try.prog 15 #[.slice a1 n1 c1, .slice a2 n2 c2, .slice a3 n3 c3] w fun e w' => e = .returned (.bool (decide (n1 ≤ 40 ∧ n2 ≤ 40 ∧ n3 ≤ 40))) ∧ w' = w := by
  by_cases h1 : n1 ≤ 40
  · have k1 : decide ((n1 : Int) ≤ 40) = true := by simp; omega
    by_cases h2 : n2 ≤ 40
    · have k2 : decide ((n2 : Int) ≤ 40) = true := by simp; omega
      by_cases h3 : n3 ≤ 40
      · have k3 : decide ((n3 : Int) ≤ 40) = true := by simp; omega
        go_enter Try.func15, Try.ntmps15
        go_wp2
        go_ret
        exact ⟨ret_bool (by simp [h1, h2, h3]), rfl⟩
      · have k3 : decide ((n3 : Int) ≤ 40) = false := by simp; omega
        go_enter Try.func15, Try.ntmps15
        go_wp2
        go_ret
        exact ⟨ret_bool (by simp [h3]), rfl⟩
    · have k2 : decide ((n2 : Int) ≤ 40) = false := by simp; omega
      go_enter Try.func15, Try.ntmps15
      go_wp2
      go_ret
      exact ⟨ret_bool (by simp [h2]), rfl⟩
  · have k1 : decide ((n1 : Int) ≤ 40) = false := by simp; omega
    go_enter Try.func15, Try.ntmps15
    go_wp2
    go_ret
    exact ⟨ret_bool (by simp [h1]), rfl⟩

theorem same_any (xs ys : List Int) (a1 a2 : Option Addr) (b1 o1 b2 o2 c1 c2 : Nat) (w : World) (h1 : IntsAt w b1 o1 xs) (h2 : IntsAt w b2 o2 ys)
    (k1 : xs = [] ∨ a1 = some ⟨b1, o1, none⟩) (k2 : ys = [] ∨ a2 = some ⟨b2, o2, none⟩) (l1 : xs.length ≤ 1000) (l2 : ys.length ≤ 1000) :
    Calls Try.prog 19 #[.slice a1 xs.length c1, .slice a2 ys.length c2] w fun e w' => e = .returned (.bool (decide (xs = ys))) ∧ ∃ x, w' = w.grow x := by
  by_cases hl : xs.length = ys.length
  · have hb : ((xs.length : Int) != (ys.length : Int)) = false := by simp; omega
    have hle : xs.length ≤ ys.length := by omega
    have HL := Lib.hid hl; clear hl
    go_enter Try.func19, Try.ntmps19
    go_wp2
    go_loopw [5] (fun i wr => ∃ k : Nat, i = .int .i64 k ∧ k ≤ xs.length ∧ (∀ j (h : j < xs.length) (h' : j < ys.length), j < k → xs[j] = ys[j]) ∧ ∃ x, wr = w.grow x) (fun i _ => xs.length - (intOf i).toNat)
    case atStart => exact ⟨0, rfl, by omega, by omega, w.grow_refl⟩
    case round =>
      obtain ⟨k, rfl, hk, hsame, x, rfl⟩ := hrel
      by_cases hlt : k < xs.length
      · have hlt2 : k < ys.length := by omega
        have e1 : a1 = some ⟨b1, o1, none⟩ := k1.resolve_left (by intro h; simp [h] at hlt)
        have e2 : a2 = some ⟨b2, o2, none⟩ := k2.resolve_left (by intro h; simp [h] at hlt2)
        subst e1 e2
        have g1 := World.grow_cell (h1 k hlt) x
        have g2 := World.grow_cell (h2 k hlt2) x
        have HS := Lib.hid hsame; clear hsame
        clear h1 h2 k1 k2
        by_cases heq : xs[k] = ys[k]
        · have hq : (xs[k] != ys[k]) = false := by simp [heq]
          have HE := Lib.hid heq; clear heq
          go_wp2
          go_quiet (fail)
          go_wp2
          go_roundw
          case rel => exact ⟨k + 1, by go_num, by omega, fun j h h2 hj => by
            rcases Nat.lt_succ_iff_lt_or_eq.1 hj with h' | rfl
            · exact HS.out j h h2 h'
            · exact HE.out, by obtain ⟨y, hy⟩ := World.grow_drewN (w.grow x) nq; rw [hy]; exact World.grow_grow _ _ _⟩
          case measure => simp [intOf]; omega
        · have hq : (xs[k] != ys[k]) = true := by simp [heq]
          go_wp2
          go_quiet (fail)
          go_wp2
          go_ret
          refine ⟨ret_bool ?_, by obtain ⟨y, hy⟩ := World.grow_drewN (w.grow x) nq; rw [hy]; exact World.grow_grow _ _ _⟩
          symm
          rw [decide_eq_false_iff_not]
          rintro rfl
          exact heq rfl
      · go_wp2
        go_ret
        refine ⟨ret_bool ?_, _, rfl⟩
        symm
        rw [decide_eq_true_eq]
        exact List.ext_getElem HL.out fun j h h2 => hsame j h h2 (by omega)
  · have hb : ((xs.length : Int) != (ys.length : Int)) = true := by simp; omega
    go_enter Try.func19, Try.ntmps19
    go_wp2
    go_ret
    refine ⟨ret_bool ?_, w.grow_refl⟩
    symm
    rw [decide_eq_false_iff_not]
    rintro rfl
    exact hl rfl

def Sp.bad (t n : Int) (s : Sp) : Prop := s.src < 0 ∨ n ≤ s.src ∨ s.dst < 0 ∨ n ≤ s.dst ∨ s.src = s.dst ∨ s.lo < -600 ∨ 600 < s.lo ∨ s.hi < s.lo ∨ s.lo + t - 1 < s.hi
instance (t n : Int) (s : Sp) : Decidable (s.bad t n) := by unfold Sp.bad; infer_instance

/-- The error of a round, events and spans. -/
def spansE (t n : Int) (l : List Sp) : Int :=
  if t < 1 ∨ 24 < t ∨ n < 1 ∨ 6 < n then 2 else if 20 < l.length then 3 else if ∃ s ∈ l, s.bad t n then 2 else 0

theorem spansE_bad {t n : Int} {l : List Sp} (ht : 1 ≤ t) (ht2 : t ≤ 24) (hn : 1 ≤ n) (hn2 : n ≤ 6) (hl : l.length ≤ 20) {k : Nat} (hk : k < l.length) (h : l[k].bad t n) : 2 = spansE t n l := by
  unfold spansE
  rw [if_neg (by omega), if_neg (by omega), if_pos ⟨_, List.getElem_mem hk, h⟩]
theorem spansE_good {t n : Int} {l : List Sp} (ht : 1 ≤ t) (ht2 : t ≤ 24) (hn : 1 ≤ n) (hn2 : n ≤ 6) (hl : l.length ≤ 20) (h : ∀ j (h : j < l.length), ¬ l[j].bad t n) : 0 = spansE t n l := by
  unfold spansE
  rw [if_neg (by omega), if_neg (by omega), if_neg]
  rintro ⟨s, hs, hb⟩
  obtain ⟨j, hj, rfl⟩ := List.getElem_of_mem hs
  exact h j hj hb

/-- What a valid round says. -/
structure Valid (t n : Int) (l : List Sp) : Prop where
  t1 : 1 ≤ t
  t2 : t ≤ 24
  n1 : 1 ≤ n
  n2 : n ≤ 6
  len : l.length ≤ 20
  ok : ∀ s ∈ l, 0 ≤ s.src ∧ s.src < n ∧ 0 ≤ s.dst ∧ s.dst < n ∧ s.src ≠ s.dst ∧ -600 ≤ s.lo ∧ s.lo ≤ 600 ∧ s.lo ≤ s.hi ∧ s.hi ≤ s.lo + t - 1

theorem valid_of {t n : Int} {l : List Sp} (h : spansE t n l = 0) : Valid t n l := by
  unfold spansE at h
  by_cases h1 : t < 1 ∨ 24 < t ∨ n < 1 ∨ 6 < n
  · rw [if_pos h1] at h; cases h
  · rw [if_neg h1] at h
    by_cases h2 : 20 < l.length
    · rw [if_pos h2] at h; cases h
    · rw [if_neg h2] at h
      by_cases h3 : ∃ s ∈ l, s.bad t n
      · rw [if_pos h3] at h; cases h
      · refine ⟨by omega, by omega, by omega, by omega, by omega, fun s hs => ?_⟩
        have h4 : ¬ s.bad t n := fun hb => h3 ⟨s, hs, hb⟩
        unfold Sp.bad at h4
        omega

set_option maxHeartbeats 1000000 in
theorem spans_loop (t n : Int) (l : List Sp) (a : Option Addr) (cap : Nat) (w : World) (b off : Nat) (hs : SpansAt w b off l) (ha : l = [] ∨ a = some ⟨b, off, none⟩)
    (ht : 1 ≤ t) (ht2 : t ≤ 24) (hn : 1 ≤ n) (hn2 : n ≤ 6) (hl : l.length ≤ 20) :
    Calls Try.prog 21 #[.int .i64 t, .int .i64 n, .slice a l.length cap] w fun e w' => e = .returned (.int .i64 (spansE t n l)) ∧ ∃ x, w' = w.grow x := by
  have h1 : decide (t < 1) = false := by simp; omega
  have h2 : decide (24 < t) = false := by simp; omega
  have h3 : decide (n < 1) = false := by simp; omega
  have h4 : decide (6 < n) = false := by simp; omega
  have h5 : decide (20 < (l.length : Int)) = false := by simp; omega
  go_enter Try.func21, Try.ntmps21
  go_wp2
  go_loopw [7] (fun i wr => ∃ k : Nat, i = .int .i64 k ∧ k ≤ l.length ∧ (∀ j (h : j < l.length), j < k → ¬ l[j].bad t n) ∧ ∃ x, wr = w.grow x) (fun i _ => l.length - (intOf i).toNat)
  case atStart => exact ⟨0, rfl, by omega, by omega, w.grow_refl⟩
  case round =>
    obtain ⟨k, rfl, hk, hbad, x, rfl⟩ := hrel
    by_cases hlt : k < l.length
    · have hne : a = some ⟨b, off, none⟩ := ha.resolve_left (by intro h; simp [h] at hlt)
      subst hne
      obtain ⟨c0, c1, c2, c3⟩ := hs k hlt
      have g0 := World.grow_cell c0 x; have g1 := World.grow_cell c1 x; have g2 := World.grow_cell c2 x; have g3 := World.grow_cell c3 x
      clear c0 c1 c2 c3 ha hs
      have HB := Lib.hid hbad; clear hbad
      go_wp2
      iterate 9
        rotate_left 1
      · go_roundw
        case rel => exact ⟨k + 1, by go_num, by omega, fun j h hj => by
          rcases Nat.lt_succ_iff_lt_or_eq.1 hj with h' | rfl
          · exact HB.out j h h'
          · unfold Sp.bad; omega, grow_alloc _ _ _⟩
        case measure => simp [intOf]; omega
      all_goals
        go_ret
        exact ⟨ret_int (spansE_bad ht ht2 hn hn2 hl hlt (by unfold Sp.bad; omega)), grow_alloc _ _ _⟩
    · go_wp2
      go_ret
      exact ⟨ret_int (spansE_good ht ht2 hn hn2 hl (fun j h => hbad j h (by omega))), _, rfl⟩

theorem spans_any (t n : Int) (l : List Sp) (a : Option Addr) (cap : Nat) (w : World) (b off : Nat) (hs : SpansAt w b off l) (ha : l = [] ∨ a = some ⟨b, off, none⟩) :
    Calls Try.prog 21 #[.int .i64 t, .int .i64 n, .slice a l.length cap] w fun e w' => e = .returned (.int .i64 (spansE t n l)) ∧ ∃ x, w' = w.grow x := by
  by_cases h : t < 1 ∨ 24 < t ∨ n < 1 ∨ 6 < n
  · have he := Lib.hid (show 2 = spansE t n l by unfold spansE; rw [if_pos h])
    go_enter Try.func21, Try.ntmps21
    go_wp2
    all_goals first
      | (go_ret; exact ⟨ret_int he.out, w.grow_refl⟩)
      | (exfalso; omega)
  · by_cases hl : l.length ≤ 20
    · exact spans_loop t n l a cap w b off hs ha (by omega) (by omega) (by omega) (by omega) hl
    · have he := Lib.hid (show 3 = spansE t n l by unfold spansE; rw [if_neg h, if_pos (by omega)])
      have h1 : decide (t < 1) = false := by simp; omega
      have h2 : decide (24 < t) = false := by simp; omega
      have h3 : decide (n < 1) = false := by simp; omega
      have h4 : decide (6 < n) = false := by simp; omega
      have h5 : decide (20 < (l.length : Int)) = true := by simp; omega
      go_enter Try.func21, Try.ntmps21
      go_wp2
      go_ret
      exact ⟨ret_int he.out, w.grow_refl⟩
end Go.Proofs.Ytgamekcjjpjnnaa
