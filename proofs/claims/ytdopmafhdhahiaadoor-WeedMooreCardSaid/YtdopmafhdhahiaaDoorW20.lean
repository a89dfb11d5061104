/- The reference's ways, of one plot. Its conditions are its premises. -/
import Derived.Test.YtdopmafhdhahiaaDoorW19
set_option linter.unusedVariables false
namespace Go.Proofs.YtdopmafhdhahiaaDoor
open Go.RowKit Go.Maps

/-- One round of ways. -/
def waysR (u x : Nat) (F N : List Nat) (k : Nat) : List Nat := if bit u k = x then N.set (k % 4) (at0 N (k % 4) + at0 F (k / 2)) else N
def waysF (u x : Nat) (F : List Nat) : Nat → List Nat
  | 0 => [0, 0, 0, 0]
  | k + 1 => waysR u x F (waysF u x F k) k
def waysV (u x : Nat) (F : List Nat) : List Nat := waysF u x F 8

theorem at0_set_le (N : List Nat) (i v m : Nat) (h : ∀ y ∈ N, y ≤ m) (hv : v ≤ m) : ∀ y ∈ N.set i v, y ≤ m := by
  intro y hy
  rcases List.mem_or_eq_of_mem_set hy with h1 | h1
  · exact h y h1
  · omega
theorem at0_le {N : List Nat} {m : Nat} (h : ∀ y ∈ N, y ≤ m) (i : Nat) : at0 N i ≤ m := by
  unfold at0
  cases hh : N[i]? with
  | none => simp
  | some x => exact h x (List.mem_of_getElem? hh)
theorem waysF_le (u x : Nat) (F : List Nat) (hF : ∀ y ∈ F, y ≤ 1) : ∀ k, (waysF u x F k).length = 4 ∧ ∀ y ∈ waysF u x F k, y ≤ k := by
  intro k
  induction k with
  | zero => exact ⟨rfl, by intro y hy; simp [waysF] at hy; omega⟩
  | succ k ih =>
    show (waysR u x F (waysF u x F k) k).length = 4 ∧ ∀ y ∈ waysR u x F (waysF u x F k) k, y ≤ k + 1
    unfold waysR
    split
    · have h1 := at0_le ih.2 (k % 4)
      have h2 := at0_le hF (k / 2)
      exact ⟨by rw [List.length_set]; exact ih.1, at0_set_le _ _ _ _ (fun y hy => Nat.le_succ_of_le (ih.2 y hy)) (by omega)⟩
    · exact ⟨ih.1, fun y hy => Nat.le_succ_of_le (ih.2 y hy)⟩

theorem becomes_int (u p r : Nat) (hu : u < 256) (hp : p < 4) (hr : r < 2) (w : World) : Calls Tryd.prog 22 #[.int .i64 u, .int .i64 ((p : Int) / 2), .int .i64 ((p : Int) % 2), .int .i64 r] w fun e w' => e = .returned (.int .i64 (bit u (2 * p + r))) ∧ w' = w := by
  have := becomes_any u (p / 2) (p % 2) r hu (by omega) (by omega) hr w
  rw [show 4 * (p / 2) + 2 * (p % 2) + r = 2 * p + r by omega] at this
  exact this

theorem nv_at {N : List Nat} {i : Nat} (h : i < N.length) : (nv N)[i]? = some (.int .i64 (at0 N i : Nat)) := by
  unfold nv at0
  rw [List.getElem?_map, List.getElem?_eq_getElem h]
  rfl
theorem nv_set (N : List Nat) (i v : Nat) : nv (N.set i v) = (nv N).set i (.int .i64 (v : Int)) := by
  unfold nv
  rw [List.map_set]

def WaysSt (u x : Nat) (F : List Nat) (b off c B : Nat) (w : World) (i : Nat) (v : Value) (wr : World) : Prop :=
  (i = 0 ∧ v = .slice (some ⟨b, off, none⟩) 4 c ∧ w = wr) ∨ (i = 1 ∧ v = .slice (some ⟨B, 0, none⟩) 4 4 ∧ Blk wr B 3 (nv (waysV u x F)) ∧ Chg (fun _ => False) w wr)

theorem waysF_hit {u x : Nat} {F : List Nat} {k : Nat} (h : bit u k = x) : waysF u x F (k + 1) = (waysF u x F k).set (k % 4) (at0 (waysF u x F k) (k % 4) + at0 F (k / 2)) := by
  show waysR u x F (waysF u x F k) k = _
  unfold waysR
  rw [if_pos h]
theorem waysF_miss {u x : Nat} {F : List Nat} {k : Nat} (h : bit u k ≠ x) : waysF u x F (k + 1) = waysF u x F k := by
  show waysR u x F (waysF u x F k) k = _
  unfold waysR
  rw [if_neg h]

theorem madeCells_one (v : Value) (n : Nat) : madeCells #[v] n = Array.replicate n v := by
  apply Array.ext
  · simp [madeCells]
  · intro i h1 h2
    simp [madeCells, Nat.mod_one]

theorem make_ints (N : Nat) (hN : N ≤ 1000) (w : World) : (Instr.makeSlice 42 (.int .i64 N) (.int .i64 N)).run Tryd.prog w = .ok (.slice (some ⟨w.heap.size, 0, none⟩) N N) (w.alloc (.cells (Array.replicate N (.int .i64 0)) 3)) := by
  obtain ⟨i0, hi0, hz0, hz1, hz2⟩ := info_parts info3
  have := run_make (P := Tryd.prog) w 42 3 i0 _ Tryd.underlying42 hi0 hz0 .i64 .i64 N N (by omega) (by omega) (by rw [hz2]; omega) (by omega)
  rw [this, hz1, Nat.mul_one, show (Value.int IntKind.i64 0).cells = #[Value.int IntKind.i64 0] from rfl, madeCells_one]
  rfl
theorem make_four (w : World) : (Instr.makeSlice 42 (.int .i64 4) (.int .i64 4)).run Tryd.prog w = .ok (.slice (some ⟨w.heap.size, 0, none⟩) 4 4) (w.alloc (.cells #[.int .i64 0, .int .i64 0, .int .i64 0, .int .i64 0] 3)) := make_ints 4 (by omega) w

set_option maxRecDepth 100000 in
set_option maxHeartbeats 1000000 in
theorem rways_any (u x : Nat) (F : List Nat) (lb lo lc b off c : Nat) (w : World) (hu : u < 256) (hF : F.length = 4) (hF1 : ∀ y ∈ F, y ≤ 1) (hl : NatsAt w lb lo [x]) (hf : NatsAt w b off F) :
    Calls Tryd.prog 30 #[.int .i64 u, .slice (some ⟨lb, lo, none⟩) 1 lc, .slice (some ⟨b, off, none⟩) 4 c] w fun e w' =>
      e = .returned (.slice (some ⟨w.heap.size, 0, none⟩) 4 4) ∧ Blk w' w.heap.size 3 (nv (waysV u x F)) ∧ Chg (fun _ => False) w w' := by
  have hmk := make_four
  have HL := Lib.hid hl; have HF := Lib.hid hf; have HF4 := Lib.hid hF; have HF1 := Lib.hid (waysF_le u x F hF1); have HFF := Lib.hid hF1
  clear hl hf hF hF1
  have hbw : b < w.heap.size := World.cell_lt (HF.out 0 (by rw [HF4.out]; omega))
  have HBW := Lib.hid hbw
  clear hbw
  obtain ⟨B, hB⟩ : ∃ B, w.heap.size = B := ⟨_, rfl⟩
  have HB := Lib.hid hB
  rw [hB]
  go_enter Tryd.func30, Tryd.ntmps30
  go_wp2_with fail
  go_loopg [8, 7] 1 (fun gm iv v wr => ∃ i : Nat, gm = 1 - i ∧ iv = .int .i64 i ∧ WaysSt u x F b off c B w i v wr)
  case atStart => exact ⟨0, rfl, rfl, .inl ⟨rfl, rfl, rfl⟩⟩
  case round =>
    obtain ⟨i, rfl, rfl, ⟨rfl, rfl, rfl⟩ | ⟨rfl, rfl, hblk, hchg⟩⟩ := hrel
    · have d0 : decide ((0 : Int) < ((1 : Nat) : Int)) = true := by simp
      go_wp2_with fail
      clear hmk
      have hblk := Blk.new w #[.int .i64 0, .int .i64 0, .int .i64 0, .int .i64 0] 3
      rw [hB] at hblk
      have HBLK := Lib.hid hblk; have HC := Lib.hid ((Chg.refl (fun _ => False) w).alloc (.cells #[.int .i64 0, .int .i64 0, .int .i64 0, .int .i64 0] 3))
      clear hblk
      generalize w.alloc (.cells #[.int .i64 0, .int .i64 0, .int .i64 0, .int .i64 0] 3) = W0 at HBLK HC ⊢
      clear hB d0
      go_loopg [10] 4 (fun gm pv w1 => ∃ p : Nat, p ≤ 4 ∧ gm = 4 - p ∧ pv = .int .i64 p ∧ Blk w1 B 3 (nv (waysF u x F (2 * p))) ∧ Chg (fun _ => False) w w1)
      case atStart => exact ⟨0, by omega, by omega, rfl, HBLK.out, HC.out⟩
      case round =>
        clear HBLK HC
        obtain ⟨p, hp, rfl, rfl, hblk, hchg⟩ := hrel
        have HBLK := Lib.hid hblk; have HC := Lib.hid hchg
        clear hblk hchg
        by_cases hlt : p < 4
        · have dp : decide ((p : Int) < 4) = true := by simp; omega
          go_wp2_with fail
          go_loopg [11] 2 (fun gm rv w2 => ∃ r : Nat, r ≤ 2 ∧ gm = 2 - r ∧ rv = .int .i64 r ∧ Blk w2 B 3 (nv (waysF u x F (2 * p + r))) ∧ Chg (fun _ => False) w w2)
          case atStart => exact ⟨0, by omega, by omega, rfl, HBLK.out, HC.out⟩
          case round =>
            clear HBLK HC
            obtain ⟨r, hr, rfl, rfl, hblk, hchg⟩ := hrel
            have HBLK := Lib.hid hblk; have HC := Lib.hid hchg
            clear hblk hchg
            by_cases hlr : r < 2
            · have dr : decide ((r : Int) < 2) = true := by simp; omega
              have l0 := (HL.out.chg HC.out (fun x => x)) 0 (by simp)
              simp only [Nat.add_zero, List.getElem_cons_zero] at l0
              have q1 : (p : Int).tdiv 2 = (p : Int) / 2 := Int.tdiv_eq_ediv_of_nonneg (by omega)
              have q2 : (p : Int).tmod 2 = (p : Int) % 2 := Int.tmod_eq_emod_of_nonneg (by omega)
              have HBE := Lib.hid (fun w' => becomes_int u p r hu hlt hlr w')
              go_wp2_with fail
              go_quiet ((go_at_call 22; exact Calls.quiet_of_same (HBE.out _)))
              clear l0 q1 q2 HBE
              have HC1 := Lib.hid (HC.out.drewN nq); have HB1 := Lib.hid (HBLK.out.drewN nq)
              generalize wr.drewN nq = W1 at HC1 HB1 ⊢
              by_cases hb : bit u (2 * p + r) = x
              · have dx : ((bit u (2 * p + r) : Int) == (x : Int)) = true := by simp [hb]
                have HN := Lib.hid (waysF_hit (F := F) hb)
                clear hb
                have hN4 := (HF1.out (2 * p + r)).1
                have hN8 := (HF1.out (2 * p + r)).2
                have k1 := HB1.out.cell_some (nv_at (i := (2 * p + r) % 4) (by rw [hN4]; omega))
                have k2 := nats_at (HF.out.chg HC1.out (fun x => x)) (i := p) (by rw [HF4.out]; omega)
                have f1 := HB1.out.free ((2 * p + r) % 4)
                have g1 := at0_le hN8 ((2 * p + r) % 4)
                have g2 := at0_le HFF.out p
                have e2 : (p : Int) % 2 * 2 + (r : Int) = (((2 * p + r) % 4 : Nat) : Int) := by omega
                rw [show (2 * p + r) / 2 = p by omega] at HN
                have hK4 : (2 * p + r) % 4 < 4 := Nat.mod_lt _ (by omega)
                obtain ⟨K, hK⟩ : ∃ K, (2 * p + r) % 4 = K := ⟨_, rfl⟩
                obtain ⟨A, hA⟩ : ∃ A, at0 (waysF u x F (2 * p + r)) K = A := ⟨_, rfl⟩
                obtain ⟨C, hC⟩ : ∃ C, at0 F p = C := ⟨_, rfl⟩
                rw [hK] at k1 f1 g1 e2 hK4 HN
                rw [hA] at k1 g1 HN
                rw [hC] at k2 g2 HN
                have i1 : IntKind.i64.wrap ((p : Int) % 2 * 2) = (p : Int) % 2 * 2 := IntWalk.i64_in _ (by omega)
                have i2 : IntKind.i64.wrap ((p : Int) % 2 * 2 + (r : Int)) = (K : Int) := by rw [e2]; exact IntWalk.i64_in _ (by omega)
                have i3 : IntKind.i64.wrap ((A : Int) + (C : Int)) = (A : Int) + (C : Int) := IntWalk.i64_in _ (by omega)
                have q2 : (p : Int).tmod 2 = (p : Int) % 2 := Int.tmod_eq_emod_of_nonneg (by omega)
                have hK5 : (K : Int) < 4 := by omega
                have hp5 : (p : Int) < 4 := by omega
                clear hK hA hC hN4 hN8 e2
                go_wp2_with fail
                go_still_tail 14, (by kernel_rfl)
                change wpList _ _ _ _ _ W1.drew
                have HC2 := Lib.hid HC1.out.drew; have HB2 := Lib.hid HB1.out.drew
                clear k1 k2 f1 i1 i2 i3
                generalize W1.drew = W2 at HC2 HB2 ⊢
                have k1 := HB2.out.cell_some (nv_at (i := K) (by rw [(HF1.out (2 * p + r)).1]; omega))
                have f1 := HB2.out.free K
                go_wp2_with fail
                go_roundg (2 - (r + 1))
                case measure => omega
                case rel =>
                  refine ⟨r + 1, by omega, rfl, by go_num, ?_, HC2.out.setCell (.inr (by rw [HB.out]; exact Nat.le_refl _)) _⟩
                  rw [show 2 * p + (r + 1) = 2 * p + r + 1 by omega, HN.out, nv_set]
                  exact HB2.out.set K _
              · have dx : ((bit u (2 * p + r) : Int) == (x : Int)) = false := by simp; omega
                have HN := Lib.hid (waysF_miss (F := F) hb)
                clear hb
                go_wp2_with fail
                go_roundg (2 - (r + 1))
                case measure => omega
                case rel =>
                  refine ⟨r + 1, by omega, rfl, by go_num, ?_, HC1.out⟩
                  rw [show 2 * p + (r + 1) = 2 * p + r + 1 by omega, HN.out]
                  exact HB1.out
            · obtain rfl : r = 2 := by omega
              go_wp2_with fail
              go_roundg (4 - (p + 1))
              case measure => omega
              case rel => exact ⟨p + 1, by omega, rfl, by go_num, HBLK.out, HC.out⟩
        · obtain rfl : p = 4 := by omega
          go_wp2_with fail
          go_roundg 0
          case measure => omega
          case rel => exact ⟨1, rfl, rfl, .inr ⟨rfl, rfl, HBLK.out, HC.out⟩⟩
    · have d0 : decide (((1 : Nat) : Int) < ((1 : Nat) : Int)) = false := by simp
      go_wp2_with fail
      go_ret
      exact ⟨rfl, hblk, hchg⟩
end Go.Proofs.YtdopmafhdhahiaaDoor
