/- The tallies: counts, sum, after, aged. Their conditions are their premises. -/
import Derived.Test.YtilacamhjibneaaDoorV3
import Derived.IntWalk
set_option linter.unusedVariables false
namespace Go.Proofs.YtilacamhjibneaaDoor
open Go.RowKit

theorem make_tally (N : Nat) (hN : N ≤ 1000) (w : World) : (Instr.makeSlice 68 (.int .i64 N) (.int .i64 N)).run Tryd.prog w = .ok (.slice (some ⟨w.heap.size, 0, none⟩) N N) (w.alloc (.cells (Array.replicate N (.int .i64 0)) 3)) := by
  obtain ⟨i0, hi0, hz0, hz1, hz2⟩ := info_parts info3
  have := run_make (P := Tryd.prog) w 68 3 i0 _ Tryd.underlying68 hi0 hz0 .i64 .i64 N N (by omega) (by omega) (by rw [hz2]; omega) (by omega)
  rw [this, hz1, Nat.mul_one, show (Value.int IntKind.i64 0).cells = #[Value.int IntKind.i64 0] from rfl, madeCells_one]
  rfl
theorem made_nats (N : Nat) (w : World) : Blk (w.alloc (.cells (Array.replicate N (.int .i64 0)) 3)) w.heap.size 3 (nv (List.replicate N 0)) := by
  have := Blk.new w (Array.replicate N (.int .i64 0)) 3
  simpa [nv] using this

/-- How many of each letter, of the first k letters. -/
def cntF (n : Nat) (t : List Nat) : Nat → List Nat
  | 0 => List.replicate n 0
  | k + 1 => (cntF n t k).set (at0 t k) (at0 (cntF n t k) (at0 t k) + 1)
def cntV (n : Nat) (t : List Nat) : List Nat := cntF n t t.length
theorem cntF_len (n : Nat) (t : List Nat) : ∀ k, (cntF n t k).length = n
  | 0 => by simp [cntF]
  | k + 1 => by rw [cntF, List.length_set, cntF_len n t k]
theorem cntF_le (n : Nat) (t : List Nat) : ∀ k, ∀ y ∈ cntF n t k, y ≤ k
  | 0 => by intro y hy; simp [cntF] at hy; omega
  | k + 1 => by
    have ih := cntF_le n t k
    rw [cntF]
    refine set_le (fun y hy => Nat.le_succ_of_le (ih y hy)) ?_
    have := at0_le ih (at0 t k)
    omega

set_option maxRecDepth 100000 in
set_option maxHeartbeats 1000000 in
theorem counts_any (n : Nat) (t : List Nat) (ao : Option Addr) (cap : Nat) (w : World) (hn : n ≤ 50) (ht : ∀ c ∈ t, c < n) (hl : t.length ≤ 200000) :
    Calls Tryd.prog 57 #[.slice ao n cap, .string (str t)] w fun e w' => e = .returned (.slice (some ⟨w.heap.size, 0, none⟩) n n) ∧ Blk w' w.heap.size 3 (nv (cntV n t)) ∧ Chg (fun _ => False) w w' := by
  have hmk := make_tally n (by omega)
  have hsz := str_size t
  have HT := Lib.hid ht
  have HB0 := Lib.hid (made_nats n w); have HC0 := Lib.hid ((Chg.refl (fun _ => False) w).alloc (.cells (Array.replicate n (.int .i64 0)) 3))
  obtain ⟨B, hB⟩ : ∃ B, w.heap.size = B := ⟨_, rfl⟩
  have HB := Lib.hid hB
  rw [hB] at HB0 ⊢
  clear ht
  go_enter Tryd.func57, Tryd.ntmps57
  go_wp2_with fail
  clear hmk hB
  generalize w.alloc (.cells (Array.replicate n (.int .i64 0)) 3) = W0 at HB0 HC0 ⊢
  go_loopg [12] t.length (fun gm iv wr => ∃ k : Nat, k ≤ t.length ∧ gm = t.length - k ∧ iv = .int .i64 k ∧ Blk wr B 3 (nv (cntF n t k)) ∧ Chg (fun _ => False) w wr)
  case atStart => exact ⟨0, by omega, by omega, rfl, HB0.out, HC0.out⟩
  case round =>
    clear HB0 HC0
    obtain ⟨k, hk, rfl, rfl, hblk, hchg⟩ := hrel
    have HBK := Lib.hid hblk; have HC := Lib.hid hchg
    clear hblk hchg
    by_cases hlt : k < t.length
    · have hcn := HT.out _ (List.getElem_mem hlt)
      have hidx := index_chr hlt (by omega)
      have hu8 := u8_chr t[k] (by omega)
      have HS : Hid (cntF n t (k + 1) = (cntF n t k).set t[k] (at0 (cntF n t k) t[k] + 1)) := Lib.hid (by rw [cntF, at0_lt_of hlt])
      have hle := at0_le (cntF_le n t k) t[k]
      have k1 := HBK.out.cell_some (nv_at (i := t[k]) (by rw [cntF_len]; omega))
      have f1 := HBK.out.free t[k]
      obtain ⟨c, hc⟩ : ∃ c, t[k] = c := ⟨_, rfl⟩
      rw [hc] at hcn hu8 HS hle k1 f1
      simp only [hc] at hidx
      obtain ⟨C, hC⟩ : ∃ C, 97 + c = C := ⟨_, rfl⟩
      rw [hC] at hu8
      simp only [hC] at hidx
      obtain ⟨m, hm⟩ : ∃ m, at0 (cntF n t k) c = m := ⟨_, rfl⟩
      rw [hm] at HS hle k1
      clear hc hC hm
      have d0 : decide (k < t.length) = true := by simpa using hlt
      have hci : (c : Int) < (n : Int) := by omega
      go_wp2_with fail
      go_roundg (t.length - (k + 1))
      case measure => omega
      case rel =>
        refine ⟨k + 1, by omega, rfl, by go_num, ?_, HC.out.setCell (.inr (by rw [HB.out]; exact Nat.le_refl _)) _⟩
        rw [HS.out, nv_set]
        exact HBK.out.set c _
    · obtain rfl : k = t.length := by omega
      go_wp2_with fail
      go_ret
      exact ⟨rfl, HBK.out, HC.out⟩

/-- A sum that stays within the bound. -/
def sumF (T : List Nat) : Nat → Nat
  | 0 => 0
  | k + 1 => min (sumF T k + at0 T k) lim
def sumV (T : List Nat) : Nat := sumF T T.length
theorem sumF_le (T : List Nat) : ∀ k, sumF T k ≤ lim
  | 0 => Nat.zero_le _
  | k + 1 => Nat.min_le_right _ _

set_option maxRecDepth 100000 in
set_option maxHeartbeats 1000000 in
theorem sum_any (T : List Nat) (b off cap : Nat) (w : World) (ht : NatsAt w b off T) (hle : ∀ y ∈ T, y ≤ lim) (hl : T.length ≤ 1000) :
    Calls Tryd.prog 58 #[.slice (some ⟨b, off, none⟩) T.length cap] w fun e w' => e = .returned (.int .i64 (sumV T : Nat)) ∧ w' = w := by
  have HT := Lib.hid ht; have HL := Lib.hid hle
  clear ht hle
  go_enter Tryd.func58, Tryd.ntmps58
  go_wp2_with fail
  go_loopg [8, 3] T.length (fun gm iv sv wr => ∃ k : Nat, k ≤ T.length ∧ gm = T.length - k ∧ iv = .int .i64 k ∧ sv = .int .i64 (sumF T k : Nat) ∧ wr = w)
  case atStart => exact ⟨0, by omega, by omega, rfl, rfl, rfl⟩
  case round =>
    obtain ⟨k, hk, rfl, rfl, rfl, rfl⟩ := hrel
    by_cases hlt : k < T.length
    · have c0 := nats_at HT.out hlt
      have h1 := at0_le HL.out k
      have h2 := sumF_le T k
      have HS := Lib.hid (show sumF T (k + 1) = min (sumF T k + at0 T k) lim from rfl)
      obtain ⟨x, hx⟩ : ∃ x, at0 T k = x := ⟨_, rfl⟩
      obtain ⟨s, hs⟩ : ∃ s, sumF T k = s := ⟨_, rfl⟩
      rw [hx] at c0 h1 HS
      rw [hs] at h2 HS ⊢
      clear hx hs
      have d0 : decide (k < T.length) = true := by simpa using hlt
      go_wp2_with fail
      refine (plus_any s x h2 h1 _).mono ?_
      rintro e w1 ⟨rfl, rfl⟩
      go_wp2_with fail
      go_roundg (T.length - (k + 1))
      case measure => omega
      case rel => exact ⟨k + 1, by omega, rfl, by go_num, by rw [HS.out], rfl⟩
    · obtain rfl : k = T.length := by omega
      go_wp2_with fail
      go_ret
      exact ⟨rfl, rfl⟩
end Go.Proofs.YtilacamhjibneaaDoor
