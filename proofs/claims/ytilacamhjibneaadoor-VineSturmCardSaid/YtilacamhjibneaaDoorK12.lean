/- Texts on the vines, laid together (V92). Their conditions are their premises. -/
import Derived.Test.YtilacamhjibneaaDoorK7
set_option linter.unusedVariables false
/- Parts, walked. Its conditions are its premises. -/
namespace Go.Proofs.YtilacamhjibneaaDoor
open Go.RowKit

/-- Is a number of a tally too great? -/
def bigF (T : List Nat) : Nat → Bool
  | 0 => false
  | k + 1 => bigF T k || decide (1152921504606846976 < at0 T k)
theorem bigF_true {T : List Nat} {j : Nat} (h : 1152921504606846976 < at0 T j) : ∀ {k : Nat}, j < k → bigF T k = true
  | 0, hk => by omega
  | k + 1, hk => by
    rw [bigF]
    by_cases hj : j = k
    · subst hj; rw [decide_eq_true h, Bool.or_true]
    · rw [bigF_true h (k := k) (by omega), Bool.true_or]

/-- What Parts answers with, in memory. -/
def ParR (T : List Nat) (w : World) (r : Ending) (w' : World) : Prop :=
  (if bigF T T.length = true then r = .returned (.tuple #[.slice none 0 0, .int .i64 4]) else ∃ g c, r = .returned (.tuple #[.slice (some ⟨g, 0, none⟩) T.length c, .int .i64 0]) ∧ NatsAt w' g 0 T) ∧ Chg (fun _ => False) w w'
set_option maxRecDepth 100000 in
set_option maxHeartbeats 1000000 in
theorem parts_ok (V : List (List Nat)) (hV : WF V) (t : List Nat) (ht : ∀ c ∈ t, c < V.length) (hl : t.length ≤ 30) (Y : Nat) (hY : Y ≤ 1000) (b off cap : Nat) (w : World) (hv : VAt w b off V) :
    Calls Tryd.prog 34 #[.slice (some ⟨b, off, none⟩) V.length cap, .string (str t), .int .i64 (Y : Int)] w (ParR (agedF V t Y) w) := by
  have HS := Lib.hid (shot_ok V hV t ht hl b off cap w hv)
  have HYR := Lib.hid (yearly_any (Y : Int) w)
  rw [decide_eq_true (by omega)] at HYR
  have HAG := Lib.hid (aged_any V hV t ht (by omega) Y hY b off cap w hv)
  have HLN := Lib.hid (agedF_len V t Y)
  have hn6 := hV.le
  clear hV ht hv
  go_enter Tryd.func34, Tryd.ntmps34
  go_wp2_with fail
  refine HS.out.mono ?_
  rintro e w1 ⟨rfl, rfl⟩
  go_wp2_with fail
  refine HYR.out.mono ?_
  rintro e w1 ⟨rfl, rfl⟩
  go_wp2_with fail
  refine HAG.out.mono ?_
  rintro e w2 ⟨⟨g, rfl, _, hb⟩, hc2⟩
  have HB := Lib.hid hb; have HC2 := Lib.hid hc2
  clear hb hc2
  obtain ⟨T, hT⟩ : ∃ T, agedF V t Y = T := ⟨_, rfl⟩
  have HTT := Lib.hid hT
  rw [hT] at HB HLN
  clear hT
  go_wp2_with fail
  go_loopg [33] V.length (fun gm kv wr => ∃ k : Nat, k ≤ V.length ∧ gm = V.length - k ∧ kv = .int .i64 k ∧ bigF T k = false ∧ Chg (fun _ => False) w2 wr)
  case atStart => exact ⟨0, by omega, by omega, rfl, rfl, Chg.refl _ _⟩
  case round =>
    obtain ⟨k, hk, rfl, rfl, hbg, hc⟩ := hrel
    have HC3 := Lib.hid (HC2.out.trans hc (fun _ x => x.elim)); have HBG := Lib.hid hbg; have HC4 := Lib.hid hc
    clear hc hbg
    by_cases hkn : k < V.length
    · have d0 : decide (k < V.length) = true := by simpa using hkn
      have k1 := (HC4.out.blk HB.out (fun x => x)).cell_some (nv_at (N := T) (i := k) (by rw [HLN.out]; exact hkn))
      have HBT := Lib.hid (fun h => bigF_true (T := T) (j := k) h (k := T.length) (by rw [HLN.out]; exact hkn))
      have HNX := Lib.hid (show bigF T (k + 1) = (bigF T k || decide (1152921504606846976 < at0 T k)) from rfl)
      obtain ⟨m, hm⟩ : ∃ m, at0 T k = m := ⟨_, rfl⟩
      rw [hm] at k1 HNX
      have HBT2 : Hid (1152921504606846976 < m → bigF T T.length = true) := Lib.hid (fun h => HBT.out (by rw [hm]; exact h))
      clear hm HBT
      by_cases hbig : 1152921504606846976 < m
      · have HBB := Lib.hid (HBT2.out hbig)
        have e1 : (1152921504606846976 : Int) < (m : Int) := by omega
        go_wp2_with fail
        go_ret2
        unfold ParR
        rw [HTT.out, if_pos HBB.out]
        exact ⟨rfl, HC3.out⟩
      · have e1 : ¬ (1152921504606846976 : Int) < (m : Int) := by omega
        rw [HBG.out, decide_eq_false hbig] at HNX
        go_wp2_with fail
        go_roundg (V.length - (k + 1))
        case measure => omega
        case rel => exact ⟨k + 1, by omega, rfl, by go_num, HNX.out, HC4.out⟩
    · obtain rfl : k = V.length := by omega
      have HN := Lib.hid (nats_of_blk (HC4.out.blk HB.out (fun x => x)))
      go_wp2_with fail
      go_ret2
      unfold ParR
      rw [HTT.out, HLN.out, if_neg (by rw [HBG.out]; simp)]
      exact ⟨⟨g, V.length, rfl, HN.out⟩, HC3.out⟩
end Go.Proofs.YtilacamhjibneaaDoor
