/- The matrix as it is read; how many letters of a part come back to it, walked. Their conditions are their premises. -/
import Derived.Test.YtilacamhjibneaaDoorV15
set_option linter.unusedVariables false
namespace Go.Proofs.YtilacamhjibneaaDoor
open Go.RowKit

/-- The matrix's cells. -/
def MAt (w : World) (cb : Nat) (V : List (List Nat)) : Prop := ∀ i, i < V.length → ∃ g, w.cell? ⟨cb, i, none⟩ = some (.slice (some ⟨g, 0, none⟩) V.length V.length) ∧ ∀ j, j < V.length → w.cell? ⟨g, j, none⟩ = some (.bool (cm (comesM V) i j))
theorem MAt.chg {w w' : World} {cb : Nat} {V : List (List Nat)} (h : MAt w cb V) (hc : Chg (fun _ => False) w w') : MAt w' cb V := fun i hi => by
  obtain ⟨g, h1, h2⟩ := h i hi
  exact ⟨g, hc.cell_some h1 (fun x => x), fun j hj => hc.cell_some (h2 j hj) (fun x => x)⟩
theorem CM.mat {w0 w : World} {cb : Nat} {V : List (List Nat)} {G : List Nat} (h : CM w0 w cb V G) (hV : WF V) (hG : G.length = V.length) : MAt w cb V := fun i hi => by
  have hiG : i < G.length := by omega
  refine ⟨G[i], h.outer.cell_some (outV_at hiG), fun j hj => ?_⟩
  rw [cm_eq hi]
  exact (h.rows i hiG).1.cell_some (bv_at (by rw [comesR_len hV hi]; exact hj))

/-- How many of the first k letters of a part come back to i. -/
def bkF (V : List (List Nat)) (i : Nat) (p : List Nat) : Nat → Nat
  | 0 => 0
  | k + 1 => if cm (comesM V) (at0 p k) i = true then bkF V i p k + 1 else bkF V i p k
def backV (V : List (List Nat)) (i : Nat) : Nat := bkF V i (part V i) (part V i).length
theorem bkF_le (V : List (List Nat)) (i : Nat) (p : List Nat) : ∀ k, bkF V i p k ≤ k
  | 0 => Nat.le_refl _
  | k + 1 => by have := bkF_le V i p k; unfold bkF; split <;> omega
theorem backV_le {V : List (List Nat)} (hV : WF V) (i : Nat) : backV V i ≤ 8 := Nat.le_trans (bkF_le _ _ _ _) (hV.part_le i).1

set_option maxRecDepth 100000 in
set_option maxHeartbeats 1000000 in
theorem back_any (V : List (List Nat)) (hV : WF V) (i : Nat) (hi : i < V.length) (vb mb b off cap cb : Nat) (w : World) (hv : VAt w b off V) (hm : MAt w cb V) (hvb : w.cell? ⟨vb, 0, none⟩ = some (.slice (some ⟨b, off, none⟩) V.length cap))
    (hmb : w.cell? ⟨mb, 0, none⟩ = some (.slice (some ⟨cb, 0, none⟩) V.length V.length)) :
    Calls Tryd.prog 85 #[.int .i64 (i : Int), .pointer (some ⟨vb, 0, none⟩), .pointer (some ⟨mb, 0, none⟩)] w fun e w' => e = .returned (.int .i64 (backV V i : Int)) ∧ Chg (fun _ => False) w w' := by
  have hn6 := hV.le
  have HV := Lib.hid hv; have HM := Lib.hid hm; have HMB := Lib.hid hmb
  have v1 := hv i hi
  rw [← part_lt hi] at v1
  have HPL := Lib.hid (hV.part_le i)
  have HBV := Lib.hid (show backV V i = bkF V i (part V i) (part V i).length from rfl)
  obtain ⟨p, hp⟩ : ∃ p, part V i = p := ⟨_, rfl⟩
  rw [hp] at v1 HPL HBV
  clear hp hv hm hmb hV
  have hpc : ∀ c ∈ p, c < 100 := fun c hc => by have := HPL.out.2 c hc; omega
  obtain ⟨cc, w9, hcv, hby, hc9, hsz9⟩ := conv_bytes p hpc w
  obtain ⟨pb, hpb⟩ : ∃ pb, w.heap.size = pb := ⟨_, rfl⟩
  rw [hpb] at hcv hby hsz9
  have HBY := Lib.hid hby; have HC9 := Lib.hid hc9
  clear hpb hpc hby hsz9 hc9
  go_enter Tryd.func85, Tryd.ntmps85
  go_wp2_with fail
  clear v1 hcv hvb
  go_loopg [14, 5] p.length (fun gm kv sv wr => ∃ k : Nat, k ≤ p.length ∧ gm = p.length - k ∧ kv = .int .i64 k ∧ sv = .int .i64 (bkF V i p k) ∧ wr = w9)
  case atStart => exact ⟨0, by omega, by omega, rfl, rfl, rfl⟩
  case round =>
    obtain ⟨k, hk, rfl, rfl, rfl, rfl⟩ := hrel
    by_cases hkl : k < p.length
    · have d3 : decide (k < p.length) = true := by simpa using hkl
      have hcn := HPL.out.2 _ (List.getElem_mem hkl)
      have hp8 := HPL.out.1
      have y1 := HBY.out k hkl
      have hu8 := u8_chr p[k] (by omega)
      have hs8 := bkF_le V i p k
      have HSK := Lib.hid (show bkF V i p (k + 1) = if cm (comesM V) p[k] i = true then bkF V i p k + 1 else bkF V i p k by rw [bkF, at0_lt_of hkl])
      obtain ⟨c, hc⟩ : ∃ c, p[k] = c := ⟨_, rfl⟩
      rw [hc] at hcn hu8 HSK y1
      obtain ⟨C, hC⟩ : ∃ C, 97 + c = C := ⟨_, rfl⟩
      rw [hC] at hu8 y1
      clear hc hC
      have hci : (c : Int) < (V.length : Int) := by omega
      have m0 := HC9.out.cell_some HMB.out (fun x => x)
      obtain ⟨g, m1, m2⟩ := (HM.out.chg HC9.out) c hcn
      have m3 := m2 i hi
      clear m2
      obtain ⟨x, hx⟩ : ∃ x, cm (comesM V) c i = x := ⟨_, rfl⟩
      rw [hx] at m3 HSK
      clear hx
      obtain ⟨s, hs⟩ : ∃ s, bkF V i p k = s := ⟨_, rfl⟩
      rw [hs] at HSK hs8 ⊢
      clear hs
      cases x
      all_goals
        go_wp2_with fail
        go_roundg (p.length - (k + 1))
        case measure => omega
        case rel => exact ⟨k + 1, by omega, rfl, by go_num, by rw [HSK.out]; simp <;> go_num, rfl⟩
    · obtain rfl : k = p.length := by omega
      go_wp2_with fail
      go_ret
      exact ⟨by rw [HBV.out]; rfl, HC9.out⟩
end Go.Proofs.YtilacamhjibneaaDoor
