/- The steps of a ring, walked: the program's turn.steps and the specification's step. Their conditions are their premises. -/
import Derived.Test.YtgamekcjjpjnnaaA10
import Derived.Test.YtgamekcjjpjnnaaM4
set_option linter.unusedVariables false
namespace Go.Proofs.Ytgamekcjjpjnnaa
open Go.RowKit

/-- What the specification's step answers. -/
def stepV (l : List Sp) (k : Int) : Value :=
  if kOk l k then .tuple #[.int .i64 (kSp l k).src, .int .i64 (kSp l k).dst, .int .i64 (kSp l k).lo, .int .i64 (kSp l k).hi, .bool true] else .tuple #[.int .i64 0, .int .i64 0, .int .i64 0, .int .i64 0, .bool false]

theorem results_tmp5 {fn : Func} {t u v x y : Tmp} (h : fn.results = #[.tmp t, .tmp u, .tmp v, .tmp x, .tmp y]) (tmps : Array Value) (P : Program) (w : World) :
    (results fn tmps).run P w = .ok (.tuple #[tmps.getD t undef, tmps.getD u undef, tmps.getD v undef, tmps.getD x undef, tmps.getD y undef]) w := by
  simp [results, h]

set_option maxRecDepth 100000 in
set_option maxHeartbeats 1000000 in
theorem step_any (l : List Sp) (a : Option Addr) (cap : Nat) (w : World) (b off : Nat) (k : Int) (hs : SpansAt w b off l) (ha : l = [] ∨ a = some ⟨b, off, none⟩) (hl : l.length ≤ 40) (hk : I64 k)
    (hb : ∀ s ∈ l, -1000 ≤ s.lo ∧ s.lo ≤ 1000 ∧ -1000 ≤ s.hi ∧ s.hi ≤ 1000) :
    Calls Try.prog 65 #[.slice a l.length cap, .int .i64 k] w fun e w' => e = .returned (stepV l k) ∧ ∃ x, w' = w.grow x := by
  obtain ⟨hk1, hk2⟩ := hk
  by_cases h0 : kOk l k
  · have ⟨h1, h2, h3⟩ := h0
    have hlt : k.natAbs - 1 < l.length := by omega
    have hne : a = some ⟨b, off, none⟩ := ha.resolve_left (by intro h; simp [h] at hlt)
    subst hne
    obtain ⟨c0, c1, c2, c3⟩ := hs _ hlt
    have hbb := hb _ (List.getElem_mem hlt)
    have e : l.getD (k.natAbs - 1) default = l[k.natAbs - 1] := by rw [List.getD_eq_getElem?_getD, List.getElem?_eq_getElem hlt]; rfl
    have he : stepV l k = _ := if_pos h0
    have d1 : (k == 0) = false := by simp; omega
    have d2 : decide ((l.length : Int) < k) = false := by simp; omega
    have d3 : decide (k < -(l.length : Int)) = false := by simp; omega
    unfold kSp at he
    rw [e] at he
    obtain ⟨K, hK2⟩ : ∃ K : Nat, k.natAbs - 1 = K := ⟨_, rfl⟩
    simp only [hK2] at c0 c1 c2 c3 he hbb hlt
    generalize l[K] = s at c0 c1 c2 c3 he hbb
    by_cases h5 : k < 0
    · have d0 : decide (k < 0) = true := by simpa using h5
      rw [if_neg (by omega)] at he
      have HE := Lib.hid he
      have hkK : k = -(K : Int) - 1 := by omega
      clear hb hs ha he e hK2 h0
      subst hkK
      have hneg : -(-(K : Int) - 1) = K + 1 := by omega
      go_enter Try.func65, Try.ntmps65
      go_wp2
      go_quiet (fail)
      go_wp2
      refine bodyPost_ret (results_tmp5 rfl _ _ _) rfl ?_
      rw [HE.out]
      exact ⟨rfl, grow_alloc_drewN _ _ _⟩
    · have d0 : decide (k < 0) = false := by simpa using h5
      rw [if_pos (by omega)] at he
      have HE := Lib.hid he
      have hkK : k = (K : Int) + 1 := by omega
      clear hb hs ha he e hK2 h0
      subst hkK
      go_enter Try.func65, Try.ntmps65
      go_wp2
      go_quiet (fail)
      go_wp2
      refine bodyPost_ret (results_tmp5 rfl _ _ _) rfl ?_
      rw [HE.out]
      exact ⟨rfl, grow_alloc_drewN _ _ _⟩
  · have he := Lib.hid (show stepV l k = _ from if_neg h0)
    clear hb hs ha
    have h0' : k = 0 ∨ k ≠ 0 ∧ (l.length : Int) < k ∨ k ≠ 0 ∧ k < -(l.length : Int) := by
      unfold kOk at h0
      omega
    clear h0
    rcases h0' with rfl | ⟨h1, h2⟩ | ⟨h1, h2⟩
    · go_enter Try.func65, Try.ntmps65
      go_wp2
      refine bodyPost_ret (results_tmp5 rfl _ _ _) rfl ?_
      rw [he.out]
      exact ⟨rfl, w.grow_refl⟩
    · have d0 : decide (k < 0) = false := by simp; omega
      have d1 : (k == 0) = false := by simp; omega
      have d2 : decide ((l.length : Int) < k) = true := by simp; omega
      go_enter Try.func65, Try.ntmps65
      go_wp2
      refine bodyPost_ret (results_tmp5 rfl _ _ _) rfl ?_
      rw [he.out]
      exact ⟨rfl, w.grow_refl⟩
    · have d0 : decide (k < 0) = true := by simp; omega
      have d1 : (k == 0) = false := by simp; omega
      have d2 : decide ((l.length : Int) < k) = false := by simp; omega
      have d3 : decide (k < -(l.length : Int)) = true := by simp; omega
      go_enter Try.func65, Try.ntmps65
      go_wp2
      refine bodyPost_ret (results_tmp5 rfl _ _ _) rfl ?_
      rw [he.out]
      exact ⟨rfl, w.grow_refl⟩
end Go.Proofs.Ytgamekcjjpjnnaa
