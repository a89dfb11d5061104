/- The pairs that come next: the function literal of splits. Its conditions are its premises. -/
import Derived.Test.YtdopmafhdhahiaaDoorW17
set_option linter.unusedVariables false
namespace Go.Proofs.YtdopmafhdhahiaaDoor
open Go.RowKit Go.Maps

/-- Two rows by their last two plots each; k counts what is put behind them: 2 x + y. -/
abbrev Pr := Nat × Nat
def nxS (p : Pr) (k : Nat) : Pr := ((2 * p.1 + k / 2) % 4, (2 * p.2 + k % 2) % 4)
def nxT (u : Nat) (p : Pr) (k : Nat) : Bool := bit u (2 * p.1 + k / 2) == bit u (2 * p.2 + k % 2)
def nxF (u : Nat) (p : Pr) : Nat → List Pr
  | 0 => []
  | k + 1 => if nxT u p k then nxF u p k ++ [nxS p k] else nxF u p k
def nxV (u : Nat) (p : Pr) : List Pr := nxF u p 4
def pairV (p : Pr) : List Value := [.int .i64 (p.1 : Int), .int .i64 (p.2 : Int)]
def pairsV (l : List Pr) : List Value := l.flatMap pairV
theorem pairsV_snoc (l : List Pr) (p : Pr) : pairsV (l ++ [p]) = pairsV l ++ pairV p := by simp [pairsV]
theorem pairsV_len (l : List Pr) : (pairsV l).length = l.length * 2 := by
  unfold pairsV
  induction l with
  | nil => rfl
  | cons p l ih => rw [List.flatMap_cons, List.length_append, ih]; simp [pairV]; omega
theorem nxF_len (u : Nat) (p : Pr) : ∀ k, (nxF u p k).length ≤ k
  | 0 => by simp [nxF]
  | k + 1 => by
    have := nxF_len u p k
    unfold nxF
    split
    · simp; omega
    · omega
theorem nxF_small (u : Nat) (p : Pr) : ∀ k, ∀ q ∈ nxF u p k, q.1 < 4 ∧ q.2 < 4
  | 0 => by simp [nxF]
  | k + 1 => by
    have ih := nxF_small u p k
    unfold nxF
    split
    · intro q hq
      rcases List.mem_append.1 hq with h | h
      · exact ih q h
      · simp at h
        subst h
        exact ⟨Nat.mod_lt _ (by omega), Nat.mod_lt _ (by omega)⟩
    · exact ih

theorem info59 : (Tryd.prog.info? 59).map (fun i => (i.zero, i.size, i.bytes)) = some (some (.agg #[.int .i64 0, .int .i64 0]), 2, 16) := by kernel_rfl

theorem low3 : ∀ t : Nat, t < 8 → bits .and .i64 (t : Int) 3 = ((t % 4 : Nat) : Int) := by decide +kernel

theorem owns_base {w : World} {b b' : Nat} {e : TypeId} {sz : Nat} {v : Value} {n : Nat} {xs : List Value} (h : w.ownsRow b e sz v n xs) (hb : b' ≤ b) : w.ownsRow b' e sz v n xs := by
  refine ⟨h.1, ?_⟩
  rcases h.2 with hn | ⟨g, cap, cur, rfl, hbg, rest⟩
  · exact .inl hn
  · exact .inr ⟨g, cap, cur, rfl, Nat.le_trans hb hbg, rest⟩

set_option maxRecDepth 100000 in
set_option maxHeartbeats 1000000 in
theorem nexts_any (u : Nat) (p : Pr) (ub : Nat) (w : World) (hu : u < 256) (h1 : p.1 < 4) (h2 : p.2 < 4) (hub : w.cell? ⟨ub, 0, none⟩ = some (.int .i64 u)) :
    Calls Tryd.prog 33 #[.agg #[.int .i64 (p.1 : Int), .int .i64 (p.2 : Int)], .pointer (some ⟨ub, 0, none⟩)] w fun e w' => ∃ v, e = .returned v ∧ w'.ownsRow w.heap.size 59 2 v (nxV u p).length (pairsV (nxV u p)) ∧ Chg (fun _ => False) w w' := by
  have HI0 : Hid (∃ i0, Tryd.prog.info? 59 = some i0 ∧ i0.zero = some (.agg #[.int .i64 0, .int .i64 0]) ∧ i0.size = 2 ∧ i0.bytes = 16) := Lib.hid (by
    obtain ⟨i0, h0, h1, h2, h3⟩ := info_parts info59
    exact ⟨i0, h0, h1, h2, h3⟩)
  have HB0 := Lib.hid (Blk.new w #[.int .i64 (p.1 : Int), .int .i64 (p.2 : Int)] 59)
  have HC0 := Lib.hid ((Chg.refl (fun _ => False) w).alloc (.cells #[.int .i64 (p.1 : Int), .int .i64 (p.2 : Int)] 59))
  have HU := Lib.hid hub
  clear hub
  obtain ⟨B, hB⟩ : ∃ B, w.heap.size = B := ⟨_, rfl⟩
  rw [hB] at HB0
  have HB := Lib.hid hB
  go_enter Tryd.func33, Tryd.ntmps33
  go_wp2_with fail
  clear hB
  generalize w.alloc (.cells #[.int .i64 (p.1 : Int), .int .i64 (p.2 : Int)] 59) = W0 at HB0 HC0 ⊢
  go_loopg [9, 4] 2 (fun gm xv ov wr => ∃ x : Nat, x ≤ 2 ∧ gm = 2 - x ∧ xv = .int .i64 x ∧ wr.ownsRow (B + 1) 59 2 ov (nxF u p (2 * x)).length (pairsV (nxF u p (2 * x))) ∧ Chg (fun _ => False) w wr ∧ Blk wr B 59 [.int .i64 (p.1 : Int), .int .i64 (p.2 : Int)])
  case atStart => exact ⟨0, by omega, by omega, rfl, World.ownsRow_nil W0 _ 59 2, HC0.out, HB0.out⟩
  case round =>
    clear HB0 HC0
    obtain ⟨x, hx, rfl, rfl, hown, hchg, hblk⟩ := hrel
    have HO := Lib.hid hown; have HC := Lib.hid hchg; have HBK := Lib.hid hblk
    clear hown hchg hblk
    by_cases hx2 : x < 2
    · have dx : decide ((x : Int) < 2) = true := by simp; omega
      go_wp2_with fail
      generalize u4 = v4 at HO ⊢
      go_loopg [12, 4] 2 (fun gm yv ov wr => ∃ y : Nat, y ≤ 2 ∧ gm = 2 - y ∧ yv = .int .i64 y ∧ wr.ownsRow (B + 1) 59 2 ov (nxF u p (2 * x + y)).length (pairsV (nxF u p (2 * x + y))) ∧ Chg (fun _ => False) w wr ∧ Blk wr B 59 [.int .i64 (p.1 : Int), .int .i64 (p.2 : Int)])
      case atStart => exact ⟨0, by omega, by omega, rfl, HO.out, HC.out, HBK.out⟩
      case round =>
        clear HO HC HBK
        obtain ⟨y, hy, rfl, rfl, hown, hchg, hblk⟩ := hrel
        have HO := Lib.hid hown; have HC := Lib.hid hchg; have HBK := Lib.hid hblk
        clear hown hchg hblk
        by_cases hy2 : y < 2
        · have dy : decide ((y : Int) < 2) = true := by simp; omega
          have c0 := HBK.out.cell_some (i := 0) rfl
          have c1 := HBK.out.cell_some (i := 1) rfl
          have i1 : IntKind.i64.wrap (2 * (p.1 : Int)) = 2 * (p.1 : Int) := IntWalk.i64_in _ (by omega)
          have i2 : IntKind.i64.wrap (2 * (p.1 : Int) + (x : Int)) = ((2 * p.1 + x : Nat) : Int) := by rw [show 2 * (p.1 : Int) + (x : Int) = ((2 * p.1 + x : Nat) : Int) by omega]; exact IntWalk.i64_in _ (by omega)
          have i3 : IntKind.i64.wrap (2 * (p.2 : Int)) = 2 * (p.2 : Int) := IntWalk.i64_in _ (by omega)
          have i4 : IntKind.i64.wrap (2 * (p.2 : Int) + (y : Int)) = ((2 * p.2 + y : Nat) : Int) := by rw [show 2 * (p.2 : Int) + (y : Int) = ((2 * p.2 + y : Nat) : Int) by omega]; exact IntWalk.i64_in _ (by omega)
          have hs8 : 2 * p.1 + x < 8 := by omega
          have ht8 : 2 * p.2 + y < 8 := by omega
          have HF : Hid (nxF u p (2 * x + (y + 1)) = if bit u (2 * p.1 + x) == bit u (2 * p.2 + y) then nxF u p (2 * x + y) ++ [((2 * p.1 + x) % 4, (2 * p.2 + y) % 4)] else nxF u p (2 * x + y)) := Lib.hid (by
            rw [show 2 * x + (y + 1) = (2 * x + y) + 1 by omega, nxF]
            unfold nxT nxS
            rw [show (2 * x + y) / 2 = x by omega, show (2 * x + y) % 2 = y by omega])
          obtain ⟨s, hs⟩ : ∃ s, 2 * p.1 + x = s := ⟨_, rfl⟩
          obtain ⟨t, ht⟩ : ∃ t, 2 * p.2 + y = t := ⟨_, rfl⟩
          rw [hs] at i2 hs8 HF
          rw [ht] at i4 ht8 HF
          clear hs ht
          go_wp2_with fail
          go_quiet (fail)
          clear i1 i2 i3 i4 c0 c1
          have HC1 := Lib.hid (HC.out.drewN nq); have HB1 := Lib.hid (HBK.out.drewN nq)
          have HO1 := Lib.hid (owns_chg HO.out ((Chg.refl (fun _ => False) wr).drewN nq))
          have hu1 := HC1.out.cell_some HU.out (fun x => x)
          generalize wr.drewN nq = W1 at HC1 HB1 HO1 hu1 ⊢
          go_wp2_with fail
          go_quiet ((go_at_call 23; exact Calls.quiet_of_same (of_any u _ hu (by omega) _)))
          clear hu1
          have HC2 := Lib.hid (HC1.out.drewN nq); have HB2 := Lib.hid (HB1.out.drewN nq)
          have HO2 := Lib.hid (owns_chg HO1.out ((Chg.refl (fun _ => False) W1).drewN nq))
          generalize W1.drewN nq = W2 at HC2 HB2 HO2 ⊢
          clear HC1 HB1 HO1 HO HC HBK
          have hBW : B + 1 ≤ W2.heap.size := HB2.out.lt
          obtain ⟨bs, hbs⟩ : ∃ bs, bit u s = bs := ⟨_, rfl⟩
          obtain ⟨bt, hbt⟩ : ∃ bt, bit u t = bt := ⟨_, rfl⟩
          rw [hbs, hbt] at HF
          rw [hbs, hbt]
          clear hbs hbt
          by_cases hbb : bs = bt
          · have db : ((bs : Int) == (bt : Int)) = true := by simp [hbb]
            have HFT := Lib.hid (HF.out.trans (if_pos (by simpa using hbb)))
            have l1 := low3 s hs8
            have l2 := low3 t ht8
            have hln := nxF_len u p (2 * x + y)
            obtain ⟨L, hL⟩ : ∃ L, nxF u p (2 * x + y) = L := ⟨_, rfl⟩
            rw [hL] at HFT hln HO2
            clear hbb hL
            have HBX := Lib.hid (Blk.new W2 #[.int .i64 ((s % 4 : Nat) : Int), .int .i64 ((t % 4 : Nat) : Int)] 59)
            go_wp2_with (at_builtin; refine wpList_append_own _ rfl _ _ 60 rfl (B + 1) 59 HI0.out.choose _ 2 16 Tryd.underlying60 HI0.out.choose_spec.1 HI0.out.choose_spec.2.1 HI0.out.choose_spec.2.2.1 HI0.out.choose_spec.2.2.2 rfl (by decide) _ _ _ rfl (HO2.out.alloc _) ⟨W2.heap.size, 0, none⟩ 1 1 [.int .i64 ((s % 4 : Nat) : Int), .int .i64 ((t % 4 : Nat) : Int)] rfl rfl (fun j v hj => by rw [add_plain, Nat.zero_add]; exact HBX.out.cell_some hj) (by intro v hv; simp at hv; rcases hv with rfl | rfl <;> rfl) (by unfold maxLen; omega) (by omega) (by simp; omega) ?_)
            intro v' w3 hown' hgrow _
            have HO3 := Lib.hid hown'; have HG := Lib.hid hgrow
            have HC3 : Hid (Chg (fun _ => False) w w3) := Lib.hid (HC2.out.trans (((Chg.refl (fun k => some k = _) W2).alloc _).trans (Chg.of_grownRow hgrow) (fun _ h => .inl h)) (fun k hk => .inr (by have := (HO2.out.lt k hk.symm).1; have := HB.out; omega)))
            have HB3 : Hid (Blk w3 B 59 [.int .i64 (p.1 : Int), .int .i64 (p.2 : Int)]) := Lib.hid ((Chg.of_grownRow hgrow).blk (HB2.out.alloc _) (fun h => by have := (HO2.out.lt B h.symm).1; omega))
            clear hown' hgrow
            go_wp2_with fail
            go_roundg (2 - (y + 1))
            case measure => omega
            case rel =>
              refine ⟨y + 1, by omega, rfl, by go_num, ?_, HC3.out, HB3.out⟩
              rw [HFT.out, pairsV_snoc, List.length_append, List.length_singleton]
              exact HO3.out
          · have db : ((bs : Int) == (bt : Int)) = false := by simp; omega
            have HFT := Lib.hid (HF.out.trans (if_neg (by simpa using hbb)))
            clear hbb
            go_wp2_with fail
            go_roundg (2 - (y + 1))
            case measure => omega
            case rel => exact ⟨y + 1, by omega, rfl, by go_num, by rw [HFT.out]; exact HO2.out, HC2.out, HB2.out⟩
        · obtain rfl : y = 2 := by omega
          go_wp2_with fail
          go_roundg (2 - (x + 1))
          case measure => omega
          case rel => exact ⟨x + 1, by omega, rfl, by go_num, HO.out, HC.out, HBK.out⟩
    · obtain rfl : x = 2 := by omega
      go_wp2_with fail
      go_ret
      refine ⟨_, rfl, ?_, HC.out⟩
      have h := HO.out
      rw [HB.out]
      exact owns_base h (by omega)
end Go.Proofs.YtdopmafhdhahiaaDoor
