/- The reference's differences as they lie in memory, and fits, walked. Its conditions are its premises. -/
import Derived.Test.YtgamekcjjpjnnaaR1
set_option linter.unusedVariables false
namespace Go.Proofs.Ytgamekcjjpjnnaa
open Go.RowKit

/-- The rows lie in blocks of their own. -/
structure DiffAt (w : World) (g : Nat) (rs : Nat → Nat) (N : Nat) (M : List Nat) : Prop where
  out : ∀ i, i < N → w.cell? ⟨g, i, none⟩ = some (.slice (some ⟨rs i, 0, none⟩) N N)
  row : ∀ i, i < N → Blk w (rs i) 3 (rowM M N i)
  mono : ∀ i j, i < j → j < N → rs i < rs j
  ne : ∀ i, i < N → rs i ≠ g

theorem DiffAt.chg {w w' : World} {g N : Nat} {rs : Nat → Nat} {M : List Nat} {S : Nat → Prop} (h : DiffAt w g rs N M) (hc : Chg S w w') (h1 : ¬ S g) (h2 : ∀ i, i < N → ¬ S (rs i)) : DiffAt w' g rs N M :=
  ⟨fun i hi => hc.cell_some (h.out i hi) h1, fun i hi => hc.blk (h.row i hi) (h2 i hi), h.mono, h.ne⟩
theorem DiffAt.inj {w : World} {g N : Nat} {rs : Nat → Nat} {M : List Nat} (h : DiffAt w g rs N M) {i j : Nat} (hi : i < N) (hj : j < N) (hne : i ≠ j) : rs i ≠ rs j := by
  rcases Nat.lt_or_gt_of_ne hne with h' | h'
  · have := h.mono i j h' hj; omega
  · have := h.mono j i h' hi; omega
theorem DiffAt.cell {w : World} {g N : Nat} {rs : Nat → Nat} {M : List Nat} (h : DiffAt w g rs N M) {i j : Nat} (hi : i < N) (hj : j < N) : w.cell? ⟨rs i, j, none⟩ = some (.int .i64 (at6 M i j : Nat)) :=
  (h.row i hi).cell_some (rowM_get hj)
theorem DiffAt.store {w : World} {g N : Nat} {rs : Nat → Nat} {M : List Nat} (h : DiffAt w g rs N M) (hM : M.length = 36) (hN : N ≤ 6) {i j : Nat} (hi : i < N) (hj : j < N) (v : Nat) :
    DiffAt (w.setCell ⟨rs i, j, none⟩ (.int .i64 (v : Int))) g rs N (M.set (i * 6 + j) v) := by
  refine ⟨fun k hk => ?_, fun k hk => ?_, h.mono, h.ne⟩
  · exact ((Chg.refl (fun b => b = rs i) w).setCell (a := ⟨rs i, j, none⟩) (.inl rfl) _).cell_some (h.out k hk) (fun e => h.ne i hi e.symm)
  · by_cases hki : k = i
    · subst hki
      rw [rowM_set hM hN hk hj]
      exact (h.row k hk).set j _
    · rw [rowM_other hM hN hi hj hk hki]
      exact (h.row k hk).setOther (h.inj hi hk (Ne.symm hki)) _

def FitPost (T : Nat) (M : List Nat) (X : List Int) (h : Nat) (w : World) (e : Ending) (w' : World) : Prop := ∃ b : Bool, e = .returned (.bool b) ∧ (b = true ↔ fitB T M X h) ∧ ∃ x, w' = w.grow x

set_option maxRecDepth 100000 in
set_option maxHeartbeats 1000000 in
theorem fits_any (T N : Nat) (M : List Nat) (g co : Nat) (rs : Nat → Nat) (X : List Int) (ax : Option Addr) (cx br : Nat) (h : Nat) (w : World) (hT0 : 1 ≤ T) (hT : T ≤ 24) (hN : N ≤ 6) (hD : DiffAt w g rs N M)
    (hX : IntsAt w br 0 X) (hax : X = [] ∨ ax = some ⟨br, 0, none⟩) (hR : InRound T X) (hn : X.length < N) (hh : h < T) :
    Calls Try.prog 71 #[.int .i64 T, .slice (some ⟨g, 0, none⟩) N co, .slice ax X.length cx, .int .i64 (h : Nat)] w (FitPost T M X h w) := by
  have HD := Lib.hid hD; have HX := Lib.hid hX; have HAX := Lib.hid hax; have HR := Lib.hid hR
  clear hD hX hax hR
  have hdm : ∀ d : Int, 0 ≤ d % (T : Int) ∧ d % (T : Int) < T := fun d => ⟨Int.emod_nonneg _ (by omega), Int.emod_lt_of_pos _ (by omega)⟩
  have HDM := Lib.hid hdm
  clear hdm
  go_enter Try.func71, Try.ntmps71
  go_wp2_with fail
  go_loopg [9] X.length (fun gm iv wr => ∃ k : Nat, k ≤ X.length ∧ gm = X.length - k ∧ iv = .int .i64 k ∧ (∀ j, j < k → (at6 M j X.length).testBit (((h : Int) - hr X j) % (T : Int)).toNat = true) ∧ ∃ x, wr = w.grow x)
  case atStart => exact ⟨0, by omega, by omega, rfl, fun j hj => by omega, w.grow_refl⟩
  case round =>
    obtain ⟨k, hk, rfl, rfl, hno, x, rfl⟩ := hrel
    have HNO := Lib.hid hno
    clear hno
    by_cases hlt : k < X.length
    · have hne : ax = some ⟨br, 0, none⟩ := HAX.out.resolve_left (by intro h; simp [h] at hlt)
      subst hne
      have c0 := World.grow_cell (HX.out k hlt) x
      rw [Nat.zero_add] at c0
      have ek : X[k] = hr X k := by unfold hr; rw [List.getD_eq_getElem?_getD, List.getElem?_eq_getElem hlt]; rfl
      have hrk := HR.out k hlt
      rw [ek] at c0
      have c1 := World.grow_cell (HD.out.out k (by omega)) x
      have c2 := World.grow_cell (HD.out.cell (i := k) (j := X.length) (by omega) hn) x
      have hds := HDM.out ((h : Int) - hr X k)
      obtain ⟨v, hv⟩ : ∃ v, hr X k = v := ⟨_, rfl⟩
      rw [hv] at c0 hrk hds
      obtain ⟨d, hd⟩ : ∃ d : Nat, ((h : Int) - v) % (T : Int) = d := ⟨(((h : Int) - v) % (T : Int)).toNat, by omega⟩
      have HV := Lib.hid hv; have HDD := Lib.hid hd
      clear ek hv
      have hmod := fun w => mod_any ((h : Int) - v) (T : Int) w (by omega) (by omega) (by omega) (by omega)
      rw [hd] at hmod hds
      have HMOD := Lib.hid hmod
      clear hmod hd
      have dk : decide ((k : Int) < (X.length : Int)) = true := by rw [decide_eq_true_eq]; omega
      obtain ⟨bt, hbt⟩ : ∃ bt, (at6 M k X.length).testBit d = bt := ⟨_, rfl⟩
      have d1 := bit_zero hbt
      have HB := Lib.hid hbt
      clear hbt
      cases bt with
      | true =>
        go_wp2_with fail
        go_quiet ((go_at_call 72; exact Calls.quiet_of_same (HMOD.out _)))
        go_wp2_with fail
        go_roundg (X.length - (k + 1))
        case measure => omega
        case rel =>
          refine ⟨k + 1, by omega, rfl, by go_num, fun j hj => ?_, ?_⟩
          · rcases Nat.lt_succ_iff_lt_or_eq.1 hj with h' | rfl
            · exact HNO.out j h'
            · have := HB.out; have := HV.out; have := HDD.out; rw [HV.out, HDD.out]; simpa using HB.out
          · obtain ⟨y, hy⟩ := (w.grow x).grow_drewN nq
            obtain ⟨z, hz⟩ := w.grow_grow x y
            exact ⟨z, by rw [hy, hz]⟩
      | false =>
        go_wp2_with fail
        go_quiet ((go_at_call 72; exact Calls.quiet_of_same (HMOD.out _)))
        go_wp2_with fail
        go_ret
        refine ⟨false, rfl, ⟨fun h => (by cases h), fun h => ?_⟩, ?_⟩
        · have h1 := h.1 k hlt
          rw [HV.out, HDD.out] at h1
          have h2 := HB.out
          simp [h2] at h1
        · obtain ⟨y, hy⟩ := (w.grow x).grow_drewN nq
          obtain ⟨z, hz⟩ := w.grow_grow x y
          exact ⟨z, by rw [hy, hz]⟩
    · obtain rfl : k = X.length := by omega
      by_cases h0 : 0 < X.length
      · have d0 : decide (0 < X.length) = true := by simpa using h0
        have d0' : decide ((0 : Int) < (X.length : Int)) = true := by rw [decide_eq_true_eq]; omega
        have H0 := Lib.hid h0
        clear h0 hlt
        go_wp2_with fail
        go_ret
        exact ⟨true, rfl, ⟨fun _ => ⟨HNO.out, .inl H0.out⟩, fun _ => rfl⟩, x, rfl⟩
      · have hx0 : X.length = 0 := by omega
        have d0 : decide (0 < X.length) = false := by simpa using h0
        have d0' : decide ((0 : Int) < (X.length : Int)) = false := by rw [decide_eq_false_iff_not]; omega
        have c1 := World.grow_cell (HD.out.out 0 (by omega)) x
        have c2 := World.grow_cell (HD.out.cell (i := 0) (j := 0) (by omega) (by omega)) x
        have HX0 := Lib.hid hx0
        have hN1 : 1 ≤ N := by omega
        clear h0 hlt hx0
        by_cases hh0 : h = 0
        · subst hh0
          by_cases h1 : at6 M 0 0 = 1
          · have e1 : ((at6 M 0 0 : Int) == 1) = true := by rw [h1]; rfl
            have H1 := Lib.hid h1
            clear h1
            go_wp2_with fail
            go_ret
            exact ⟨true, rfl, ⟨fun _ => ⟨HNO.out, .inr ⟨rfl, H1.out⟩⟩, fun _ => rfl⟩, x, rfl⟩
          · have e1 : ((at6 M 0 0 : Int) == 1) = false := by rw [beq_eq_false_iff_ne]; omega
            have H1 := Lib.hid h1
            clear h1
            go_wp2_with fail
            go_ret
            exact ⟨false, rfl, ⟨fun h => (by cases h), fun h => by rcases h.2 with h | h; · have := HX0.out; omega
                                                                   · exact absurd h.2 H1.out⟩, x, rfl⟩
        · have e1 : ((h : Int) == 0) = false := by rw [beq_eq_false_iff_ne]; omega
          have H1 := Lib.hid hh0
          clear hh0
          go_wp2_with fail
          go_ret
          exact ⟨false, rfl, ⟨fun h => (by cases h), fun h => by rcases h.2 with h | h; · have := HX0.out; omega
                                                                 · exact absurd h.1 H1.out⟩, x, rfl⟩
end Go.Proofs.Ytgamekcjjpjnnaa
