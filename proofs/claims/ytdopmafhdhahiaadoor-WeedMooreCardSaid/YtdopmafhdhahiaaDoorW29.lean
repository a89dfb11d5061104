/- Back, walked. Its conditions are its premises. -/
import Derived.Test.YtdopmafhdhahiaaDoorW28
set_option linter.unusedVariables false
namespace Go.Proofs.YtdopmafhdhahiaaDoor
open Go.RowKit Go.Maps

theorem info45 : (Tryd.prog.info? 45).map (fun i => (i.zero, i.size, i.bytes)) = some (some (.int .i64 0), 1, 8) := by kernel_rfl
theorem make_ends (N : Nat) (hN : N ≤ 1000) (w : World) : (Instr.makeSlice 44 (.int .i64 ((N : Int) + 1)) (.int .i64 ((N : Int) + 1))).run Tryd.prog w = .ok (.slice (some ⟨w.heap.size, 0, none⟩) (N + 1) (N + 1)) (w.alloc (.cells (Array.replicate (N + 1) (.int .i64 0)) 45)) := by
  obtain ⟨i0, hi0, hz0, hz1, hz2⟩ := info_parts info45
  have := run_make (P := Tryd.prog) w 44 45 i0 _ Tryd.underlying44 hi0 hz0 .i64 .i64 ((N : Int) + 1) ((N : Int) + 1) (by omega) (by omega) (by rw [hz2]; omega) (by omega)
  rw [this, hz1, Nat.mul_one, show (Value.int IntKind.i64 0).cells = #[Value.int IntKind.i64 0] from rfl, madeCells_one]
  rfl
theorem made_ends (N : Nat) (w : World) : Blk (w.alloc (.cells (Array.replicate (N + 1) (.int .i64 0)) 45)) w.heap.size 45 (nv (List.replicate (N + 1) 0)) := by
  have := Blk.new w (Array.replicate (N + 1) (.int .i64 0)) 45
  simpa [nv] using this

theorem has_bit4 : ∀ e : Nat, e < 16 → ∀ t : Nat, t < 8 → bits .and .i64 (e : Int) (wrap64 ((2 : Int) ^ (t % 4))) = if e / 2 ^ (t % 4) % 2 = 1 then ((2 ^ (t % 4) : Nat) : Int) else 0 := by decide +kernel
theorem set_bit2 : ∀ o : Nat, o < 16 → ∀ t : Nat, t < 8 → bits .or .i64 (o : Int) (wrap64 ((2 : Int) ^ (t / 2))) = ((o ||| 2 ^ (t / 2) : Nat) : Int) := by decide +kernel
theorem pow_ne4 (t : Nat) : (((2 ^ (t % 4) : Nat) : Int) != 0) = true := by
  have := Nat.two_pow_pos (t % 4)
  rw [bne_iff_ne]
  omega
theorem bck_hit {u x e t : Nat} (h1 : bit u t = x) (h2 : e / 2 ^ (t % 4) % 2 = 1) : bckF u x e (t + 1) = bckF u x e t ||| 2 ^ (t / 2) := by
  show bckR u x e (bckF u x e t) t = _
  unfold bckR
  rw [if_pos ⟨h1, h2⟩]
theorem bck_miss {u x e t : Nat} (h : ¬ (bit u t = x ∧ e / 2 ^ (t % 4) % 2 = 1)) : bckF u x e (t + 1) = bckF u x e t := by
  show bckR u x e (bckF u x e t) t = _
  unfold bckR
  rw [if_neg h]

theorem has_bitp : ∀ e : Nat, e < 16 → ∀ p : Nat, p < 4 → bits .and .i64 (e : Int) (wrap64 ((2 : Int) ^ p)) = if e / 2 ^ p % 2 = 1 then ((2 ^ p : Nat) : Int) else 0 := by decide +kernel
theorem pow_nep (p : Nat) : (((2 ^ p : Nat) : Int) == 0) = false := by
  have := Nat.two_pow_pos p
  rw [beq_eq_false_iff_ne]
  omega
theorem none_bit : ∀ e : Nat, e < 16 → (∀ q : Nat, q < 4 → e / 2 ^ q % 2 ≠ 1) → e = 0 := by decide +kernel
theorem some_bit : ∀ e : Nat, e < 16 → ∀ p : Nat, p < 4 → e / 2 ^ p % 2 = 1 → e ≠ 0 := by decide +kernel
theorem even3 : ∀ p : Nat, p < 4 → bits .and .i64 (2 * (p : Int)) 3 = ((2 * p % 4 : Nat) : Int) := by decide +kernel
theorem even1 : ∀ p : Nat, p < 4 → bits .and .i64 (2 * (p : Int)) 1 = 0 := by decide +kernel
theorem odd3 : ∀ p : Nat, p < 4 → bits .and .i64 (2 * (p : Int) + 1) 3 = (((2 * p + 1) % 4 : Nat) : Int) := by decide +kernel
theorem odd1 : ∀ p : Nat, p < 4 → bits .and .i64 (2 * (p : Int) + 1) 1 = 1 := by decide +kernel
theorem lowp : ∀ p : Nat, p < 4 → bits .and .i64 (p : Int) 1 = ((p % 2 : Nat) : Int) := by decide +kernel
theorem of_even (u p : Nat) (hu : u < 256) (hp : p < 4) (w : World) : Calls Tryd.prog 23 #[.int .i64 u, .int .i64 (2 * (p : Int))] w fun e w' => e = .returned (.int .i64 (bit u (2 * p))) ∧ w' = w := of_any u (2 * p) hu (by omega) w

def BackV (u : Nat) (l : List Nat) (w : World) (e : Ending) (w' : World) : Prop :=
  (∃ (s : ByteArray) (er : Int), e = .returned (.tuple #[.string s, .int .i64 er]) ∧ er = if backB u l then 0 else 10) ∧ Chg (fun _ => False) w w'

set_option maxRecDepth 100000 in
set_option maxHeartbeats 4000000 in
theorem back_any (u : Nat) (l : List Nat) (hu : u < 256) (hl : ∀ x ∈ l, x < 2) (h0 : l ≠ []) (hn : l.length ≤ 100) (w : World) : Calls Tryd.prog 16 #[.int .i64 u, .string (txt l)] w (BackV u l w) := by
  have HROW := Lib.hid (fun w' => row_any u l 398 w' hu hl (by omega) (by omega) h0)
  have HPL := Lib.hid (fun w' => plots_any l w' hl (by omega))
  have HI0 : Hid (∃ i0, Tryd.prog.info? 3 = some i0 ∧ i0.zero = some (.int .i64 0) ∧ i0.size = 1 ∧ i0.bytes = 8) := Lib.hid (by
    obtain ⟨i0, h0, h1, h2, h3⟩ := info_parts info3
    exact ⟨i0, h0, h1, h2, h3⟩)
  have HNE := Lib.hid h0; have HL := Lib.hid hl
  have hmk := make_ends l.length (by omega)
  have hpos : 0 < l.length := List.length_pos_iff.2 h0
  clear h0 hl
  go_enter Tryd.func16, Tryd.ntmps16
  go_wp2_with fail
  refine (HROW.out _).mono ?_
  rintro e w1 ⟨rfl, hc1⟩
  have HC1 := Lib.hid hc1
  clear hc1
  go_wp2_with fail
  refine (HPL.out _).mono ?_
  rintro e w2 ⟨v, rfl, ho2, hc2⟩
  obtain ⟨a, g, c, rfl, hag, hat, hg⟩ := owns_nats ho2
  have hag' := hag.resolve_left HNE.out
  subst hag'
  have HC2 := Lib.hid (HC1.out.trans hc2 (fun _ x => x.elim)); have HAT := Lib.hid hat
  have HB0 := Lib.hid (made_ends l.length w2)
  have hgl : g < w2.heap.size := World.cell_lt (hat 0 hpos)
  obtain ⟨cb, hcb⟩ : ∃ cb, w2.heap.size = cb := ⟨_, rfl⟩
  rw [hcb] at HB0
  have HCB := Lib.hid (show g ≠ cb by omega)
  have f0 := HB0.out.free l.length
  have c0 := HB0.out.cell_some (nv_at (i := l.length) (by simp))
  clear hag hat ho2 hc2 hg hgl
  go_wp2_with fail
  have HB1 : Hid (Blk (w2.alloc (.cells ((Array.replicate (l.length + 1) (Value.int .i64 0)).setIfInBounds l.length (.int .i64 15)) 45)) cb 45 (nv (canA u l l.length))) := Lib.hid (by
    have h := Blk.new w2 ((Array.replicate (l.length + 1) (Value.int .i64 0)).setIfInBounds l.length (.int .i64 15)) 45
    rw [hcb] at h
    rw [← canA_start, nv_set]
    simpa [nv] using h)
  have HC3 := Lib.hid (HC2.out.alloc (.cells ((Array.replicate (l.length + 1) (Value.int .i64 0)).setIfInBounds l.length (.int .i64 15)) 45))
  have HAT3 := Lib.hid (HAT.out.chg ((Chg.refl (fun _ => False) w2).alloc (.cells ((Array.replicate (l.length + 1) (Value.int .i64 0)).setIfInBounds l.length (.int .i64 15)) 45)) (fun x => x))
  have HW3 := Lib.hid (show w.heap.size ≤ cb by have := HC2.out.size; omega)
  clear f0 c0 HB0 HAT hcb
  generalize w2.alloc (.cells ((Array.replicate (l.length + 1) (Value.int .i64 0)).setIfInBounds l.length (.int .i64 15)) 45) = W3 at HB1 HC3 HAT3 ⊢
  clear HC2
  go_loopg [9] l.length (fun gm iv wr => ∃ m : Nat, m ≤ l.length ∧ m = gm ∧ iv = .int .i64 ((m : Int) - 1) ∧ Blk wr cb 45 (nv (canA u l m)) ∧ Chg (fun k => k = cb) W3 wr)
  case atStart => exact ⟨l.length, Nat.le_refl _, rfl, rfl, HB1.out, Chg.refl _ _⟩
  case round =>
    clear HB1
    obtain ⟨m, hm, rfl, rfl, hblk, hchg⟩ := hrel
    cases m with
    | zero =>
      have d0 : decide ((0 : Int) ≤ ((0 : Nat) : Int) - 1) = false := by simp
      have HB2 := Lib.hid hblk; have HC4 := Lib.hid hchg
      clear hblk hchg
      go_wp2_with fail
      have HE := Lib.hid (show at0 (canA u l 0) 0 = canS u l by rw [canA_at u l 0 (by omega), if_neg (by omega)]; rfl)
      have HE16 := Lib.hid (canS_lt u l)
      have HSZ := Lib.hid (show cb < wr.heap.size from HB2.out.lt)
      have HATR := Lib.hid (HAT3.out.chg HC4.out HCB.out)
      have HCW : Hid (Chg (fun _ => False) w wr) := Lib.hid (HC3.out.trans HC4.out (fun k hk => .inr (by have := HW3.out; omega)))
      generalize wr = W4 at HB2 HC4 HSZ HATR HCW ⊢
      go_loopg [72] 4 (fun gm pv wr => ∃ p : Nat, p ≤ 4 ∧ gm = 4 - p ∧ pv = .int .i64 p ∧ (∀ q : Nat, q < p → canS u l / 2 ^ q % 2 ≠ 1) ∧ Chg (fun _ => False) W4 wr)
      case atStart => exact ⟨0, by omega, by omega, rfl, fun q hq => by omega, Chg.refl _ _⟩
      case round =>
        obtain ⟨p, hp, rfl, rfl, hno, hchg⟩ := hrel
        have HNO := Lib.hid hno; have HC5 := Lib.hid hchg
        clear hno hchg
        by_cases hp4 : p < 4
        · have dp : decide ((p : Int) < 4) = true := by simp; omega
          have e0 := (HC5.out.blk HB2.out (fun x => x)).cell_some (nv_at (i := 0) (by rw [canA_len]; omega))
          rw [HE.out] at e0
          have hq := has_bitp (canS u l) HE16.out p hp4
          have k0 : (0 : Int) < (l.length : Int) + 1 := by omega
          have hnp := pow_nep p
          obtain ⟨E, hEE⟩ : ∃ E, canS u l = E := ⟨_, rfl⟩
          rw [hEE] at e0 hq
          have HEE := Lib.hid hEE
          clear hEE
          by_cases hc : E / 2 ^ p % 2 = 1
          · rw [if_pos hc] at hq
            have HR : Hid (backB u l = true) := Lib.hid (by unfold backB; rw [bne_iff_ne]; exact some_bit _ HE16.out p hp4 (by rw [HEE.out]; exact hc))
            clear hc
            obtain ⟨pw, hpw⟩ : ∃ pw, 2 ^ p = pw := ⟨_, rfl⟩
            rw [hpw] at hq hnp
            clear hpw
            go_wp2_with fail
            go_quiet (fail)
            clear hq hnp e0
            have HC6 := Lib.hid (HC5.out.drewN nq)
            generalize wr.drewN nq = W6 at HC6 ⊢
            have lp := lowp p hp4
            go_wp2_with fail
            have hqi := QueB.of_blk (n := 2) (Blk.new W6 #[.int .i64 ((p : Int) / 2), .int .i64 ((p : Int) % 2)] 3) 1 rfl
            have HQI : Hid (QueB (W6.alloc (.cells #[.int .i64 ((p : Int) / 2), .int .i64 ((p : Int) % 2)] 3)) 1 W6.heap.size 0 2 2 (nv [p / 2, p % 2])) := Lib.hid hqi
            have HC7 := Lib.hid (HC6.out.alloc (.cells #[.int .i64 ((p : Int) / 2), .int .i64 ((p : Int) % 2)] 3))
            have HSI := Lib.hid (show W4.heap.size ≤ W6.heap.size from HC6.out.size)
            clear hqi lp
            obtain ⟨nb, hnb⟩ : ∃ nb, W6.heap.size = nb := ⟨_, rfl⟩
            rw [hnb] at HQI HSI ⊢
            clear hnb
            generalize W6.alloc (.cells #[.int .i64 ((p : Int) / 2), .int .i64 ((p : Int) % 2)] 3) = W7 at HQI HC7 ⊢
            clear HC6 HC5 HNO
            go_loopg [89, 11, 12] l.length (fun gm iv pv ov wr => ∃ (i p2 g2 o2 c2 : Nat) (L : List Nat), i ≤ l.length ∧ gm = l.length - i ∧ iv = .int .i64 i ∧ p2 < 4 ∧ pv = .int .i64 p2 ∧ L.length = 2 + i ∧ ov = .slice (some ⟨g2, o2, none⟩) L.length c2 ∧ QueB wr 1 g2 o2 c2 L.length (nv L) ∧ (∀ y ∈ L, y < 2) ∧ W4.heap.size ≤ g2 ∧ Chg (fun _ => False) W4 wr)
            case atStart => exact ⟨0, p, nb, 0, 2, [p / 2, p % 2], by omega, by omega, rfl, hp4, rfl, rfl, rfl, HQI.out, by intro y hy; simp at hy; omega, HSI.out, HC7.out⟩
            case round =>
              clear HQI HC7 HSI
              obtain ⟨i, p2, g2, o2, c2, L, hi, rfl, rfl, hp2, rfl, hLL, rfl, hque, hsm, hg2, hchg⟩ := hrel
              have HLL := Lib.hid hLL; have HQ := Lib.hid hque; have HSM := Lib.hid hsm; have HG2 := Lib.hid hg2; have HC8 := Lib.hid hchg
              clear hque hsm hg2 hchg
              by_cases hil : i < l.length
              · have di : decide (i < l.length) = true := by simpa using hil
                have l0 := (HATR.out.chg HC8.out (fun x => x)) i hil
                rw [Nat.zero_add] at l0
                have hK102 : L.length ≤ 102 := by omega
                obtain ⟨K, hK⟩ : ∃ K, L.length = K := ⟨_, rfl⟩
                have HK := Lib.hid hK
                rw [hK] at HQ hK102 ⊢
                clear hK hLL
                obtain ⟨x, hx⟩ : ∃ x, l[i] = x := ⟨_, rfl⟩
                rw [hx] at l0
                clear hx
                have k1 : (i : Int) < (l.length : Int) := by omega
                go_wp2_with fail
                clear l0
                have e0 := (HC8.out.blk HB2.out (fun x => x)).cell_some (nv_at (i := i + 1) (by rw [canA_len]; omega))
                have ae16 : at0 (canA u l 0) (i + 1) < 16 := by rw [canA_at u l 0 (by omega), if_neg (by omega)]; exact canS_lt _ _
                obtain ⟨F, hF⟩ : ∃ F, at0 (canA u l 0) (i + 1) = F := ⟨_, rfl⟩
                rw [hF] at e0 ae16
                clear hF
                have hq := has_bitp F ae16 (2 * p2 % 4) (by omega)
                have hnp := pow_nep (2 * p2 % 4)
                have ev3 := even3 p2 hp2
                have i1 : IntKind.i64.wrap ((i : Int) + 1) = (i : Int) + 1 := IntWalk.i64_in _ (by omega)
                have k2 : (i : Int) + 1 < (l.length : Int) + 1 := by omega
                by_cases hb : bit u (2 * p2) = x
                · have db : ((bit u (2 * p2) : Int) != (x : Int)) = false := by simp [hb]
                  clear hb
                  by_cases hc : F / 2 ^ (2 * p2 % 4) % 2 = 1
                  · rw [if_pos hc] at hq
                    clear hc
                    obtain ⟨pw, hpw⟩ : ∃ pw, 2 ^ (2 * p2 % 4) = pw := ⟨_, rfl⟩
                    rw [hpw] at hq hnp
                    clear hpw
                    go_quiet ((go_at_call 23; exact Calls.quiet_of_same (of_even u p2 hu hp2 _)))
                    clear hq hnp e0 i1
                    have HC7 := Lib.hid (HC8.out.drewN nq); have HQ7 := Lib.hid (HQ.out.chg ((Chg.refl (fun _ => False) wr).drewN nq) (fun x => x))
                    generalize wr.drewN nq = W8 at HC7 HQ7 ⊢
                    clear HC8 HQ
                    have ev1 := even1 p2 hp2
                    have HX := Lib.hid (Blk.new W8 #[.int .i64 ((0 : Nat) : Int)] 3)
                    have HQ8 := Lib.hid (HQ7.out.chg ((Chg.refl (fun _ => False) W8).alloc (.cells #[.int .i64 ((0 : Nat) : Int)] 3)) (fun x => x))
                    go_wp2_with (at_builtin; refine wpList_append_que rfl (.tmp 117) (.tmp 120) 42 rfl 3 HI0.out.choose _ 1 8 Tryd.underlying42 HI0.out.choose_spec.1 HI0.out.choose_spec.2.1 HI0.out.choose_spec.2.2.1 HI0.out.choose_spec.2.2.2 rfl (by decide) g2 o2 c2 K _ (by simp [Act.eval]) HQ8.out ⟨W8.heap.size, 0, none⟩ 1 1 [.int .i64 ((0 : Nat) : Int)] (by simp [Act.eval]) rfl (by decide) (fun j v hj => by rw [add_plain, Nat.zero_add]; exact HX.out.cell_some hj) (by intro v hv; simp at hv; subst hv; rfl) (by unfold maxLen; omega) (by omega) ?_)
                    intro g3 o3 c3 W9 hq9 hg9 hc9
                    have HQ9 := Lib.hid hq9; have HG9 := Lib.hid hg9
                    have HC9 : Hid (Chg (fun _ => False) W4 W9) := Lib.hid (HC7.out.trans (((Chg.refl (fun k => k = g2) W8).alloc _).trans hc9 (fun _ h => .inl h)) (fun k hk => .inr (by have := HG2.out; omega)))
                    clear hq9 hg9 hc9
                    go_wp2_with fail
                    go_roundg (l.length - (i + 1))
                    case measure => omega
                    case rel =>
                      refine ⟨i + 1, 2 * p2 % 4, g3, o3, c3, L ++ [0], by omega, rfl, by go_num, Nat.mod_lt _ (by omega), rfl, ?_, ?_, ?_, ?_, ?_, HC9.out⟩
                      · rw [List.length_append, List.length_singleton]; have := HLL.out; omega
                      · rw [List.length_append, List.length_singleton, HK.out]
                      · rw [List.length_append, List.length_singleton, HK.out, nv, List.map_append]; exact HQ9.out
                      · intro y hy
                        rcases List.mem_append.1 hy with hy | hy
                        · exact HSM.out y hy
                        · simp at hy; omega
                      · rcases HG9.out with h | h
                        · rw [h]; exact HG2.out
                        · have := HC7.out.size; (try simp at h); omega

                  · rw [if_neg hc] at hq
                    clear hc
                    go_quiet ((go_at_call 23; exact Calls.quiet_of_same (of_even u p2 hu hp2 _)))
                    clear hq hnp e0 i1 ev3
                    have HC7 := Lib.hid (HC8.out.drewN nq); have HQ7 := Lib.hid (HQ.out.chg ((Chg.refl (fun _ => False) wr).drewN nq) (fun x => x))
                    generalize wr.drewN nq = W8 at HC7 HQ7 ⊢
                    clear HC8 HQ
                    have od3 := odd3 p2 hp2
                    have od1 := odd1 p2 hp2
                    have HX := Lib.hid (Blk.new W8 #[.int .i64 ((1 : Nat) : Int)] 3)
                    have HQ8 := Lib.hid (HQ7.out.chg ((Chg.refl (fun _ => False) W8).alloc (.cells #[.int .i64 ((1 : Nat) : Int)] 3)) (fun x => x))
                    go_wp2_with (at_builtin; refine wpList_append_que rfl (.tmp 117) (.tmp 120) 42 rfl 3 HI0.out.choose _ 1 8 Tryd.underlying42 HI0.out.choose_spec.1 HI0.out.choose_spec.2.1 HI0.out.choose_spec.2.2.1 HI0.out.choose_spec.2.2.2 rfl (by decide) g2 o2 c2 K _ (by simp [Act.eval]) HQ8.out ⟨W8.heap.size, 0, none⟩ 1 1 [.int .i64 ((1 : Nat) : Int)] (by simp [Act.eval]) rfl (by decide) (fun j v hj => by rw [add_plain, Nat.zero_add]; exact HX.out.cell_some hj) (by intro v hv; simp at hv; subst hv; rfl) (by unfold maxLen; omega) (by omega) ?_)
                    intro g3 o3 c3 W9 hq9 hg9 hc9
                    have HQ9 := Lib.hid hq9; have HG9 := Lib.hid hg9
                    have HC9 : Hid (Chg (fun _ => False) W4 W9) := Lib.hid (HC7.out.trans (((Chg.refl (fun k => k = g2) W8).alloc _).trans hc9 (fun _ h => .inl h)) (fun k hk => .inr (by have := HG2.out; omega)))
                    clear hq9 hg9 hc9
                    go_wp2_with fail
                    go_roundg (l.length - (i + 1))
                    case measure => omega
                    case rel =>
                      refine ⟨i + 1, (2 * p2 + 1) % 4, g3, o3, c3, L ++ [1], by omega, rfl, by go_num, Nat.mod_lt _ (by omega), rfl, ?_, ?_, ?_, ?_, ?_, HC9.out⟩
                      · rw [List.length_append, List.length_singleton]; have := HLL.out; omega
                      · rw [List.length_append, List.length_singleton, HK.out]
                      · rw [List.length_append, List.length_singleton, HK.out, nv, List.map_append]; exact HQ9.out
                      · intro y hy
                        rcases List.mem_append.1 hy with hy | hy
                        · exact HSM.out y hy
                        · simp at hy; omega
                      · rcases HG9.out with h | h
                        · rw [h]; exact HG2.out
                        · have := HC7.out.size; (try simp at h); omega

                · have db : ((bit u (2 * p2) : Int) != (x : Int)) = true := by rw [bne_iff_ne]; omega
                  clear hb hq
                  go_quiet ((go_at_call 23; exact Calls.quiet_of_same (of_even u p2 hu hp2 _)))
                  clear hnp e0 i1 ev3
                  have HC7 := Lib.hid (HC8.out.drewN nq); have HQ7 := Lib.hid (HQ.out.chg ((Chg.refl (fun _ => False) wr).drewN nq) (fun x => x))
                  generalize wr.drewN nq = W8 at HC7 HQ7 ⊢
                  clear HC8 HQ
                  have od3 := odd3 p2 hp2
                  have od1 := odd1 p2 hp2
                  have HX := Lib.hid (Blk.new W8 #[.int .i64 ((1 : Nat) : Int)] 3)
                  have HQ8 := Lib.hid (HQ7.out.chg ((Chg.refl (fun _ => False) W8).alloc (.cells #[.int .i64 ((1 : Nat) : Int)] 3)) (fun x => x))
                  go_wp2_with (at_builtin; refine wpList_append_que rfl (.tmp 117) (.tmp 120) 42 rfl 3 HI0.out.choose _ 1 8 Tryd.underlying42 HI0.out.choose_spec.1 HI0.out.choose_spec.2.1 HI0.out.choose_spec.2.2.1 HI0.out.choose_spec.2.2.2 rfl (by decide) g2 o2 c2 K _ (by simp [Act.eval]) HQ8.out ⟨W8.heap.size, 0, none⟩ 1 1 [.int .i64 ((1 : Nat) : Int)] (by simp [Act.eval]) rfl (by decide) (fun j v hj => by rw [add_plain, Nat.zero_add]; exact HX.out.cell_some hj) (by intro v hv; simp at hv; subst hv; rfl) (by unfold maxLen; omega) (by omega) ?_)
                  intro g3 o3 c3 W9 hq9 hg9 hc9
                  have HQ9 := Lib.hid hq9; have HG9 := Lib.hid hg9
                  have HC9 : Hid (Chg (fun _ => False) W4 W9) := Lib.hid (HC7.out.trans (((Chg.refl (fun k => k = g2) W8).alloc _).trans hc9 (fun _ h => .inl h)) (fun k hk => .inr (by have := HG2.out; omega)))
                  clear hq9 hg9 hc9
                  go_wp2_with fail
                  go_roundg (l.length - (i + 1))
                  case measure => omega
                  case rel =>
                    refine ⟨i + 1, (2 * p2 + 1) % 4, g3, o3, c3, L ++ [1], by omega, rfl, by go_num, Nat.mod_lt _ (by omega), rfl, ?_, ?_, ?_, ?_, ?_, HC9.out⟩
                    · rw [List.length_append, List.length_singleton]; have := HLL.out; omega
                    · rw [List.length_append, List.length_singleton, HK.out]
                    · rw [List.length_append, List.length_singleton, HK.out, nv, List.map_append]; exact HQ9.out
                    · intro y hy
                      rcases List.mem_append.1 hy with hy | hy
                      · exact HSM.out y hy
                      · simp at hy; omega
                    · rcases HG9.out with h | h
                      · rw [h]; exact HG2.out
                      · have := HC7.out.size; (try simp at h); omega

              · obtain rfl : i = l.length := by omega
                have HNT : Hid (NatsAt wr g2 o2 L) := Lib.hid (fun k hk => HQ.out.at_ k _ (by unfold nv; rw [List.getElem?_map, List.getElem?_eq_getElem hk]; rfl))
                have hK102 : L.length ≤ 102 := by omega
                clear hLL
                go_wp2_with fail
                refine (written_any L (some ⟨g2, o2, none⟩) c2 g2 o2 _ HNT.out HSM.out (by omega) (.inr rfl)).mono ?_
                rintro e w10 ⟨rfl, hc10⟩
                have HC10 := Lib.hid (HC8.out.trans hc10 (fun _ x => x.elim))
                clear hc10
                go_wp2_with fail
                go_ret2
                exact ⟨⟨_, 0, rfl, by rw [HR.out]; rfl⟩, HCW.out.trans HC10.out (fun _ x => x.elim)⟩
          · rw [if_neg hc] at hq
            have HNC := Lib.hid hc
            clear hc
            go_wp2_with fail
            go_quiet (fail)
            clear hq hnp e0
            have HC6 := Lib.hid (HC5.out.drewN nq)
            generalize wr.drewN nq = W6 at HC6 ⊢
            go_wp2_with fail
            go_roundg (4 - (p + 1))
            case measure => omega
            case rel =>
              refine ⟨p + 1, by omega, rfl, by go_num, fun q hq => ?_, HC6.out⟩
              by_cases h : q = p
              · subst h; rw [HEE.out]; exact HNC.out
              · exact HNO.out q (by omega)
        · obtain rfl : p = 4 := by omega
          have HR : Hid (backB u l = false) := Lib.hid (by unfold backB; rw [none_bit _ HE16.out HNO.out]; rfl)
          go_wp2_with fail
          go_ret2
          exact ⟨⟨_, 10, rfl, by rw [HR.out]; rfl⟩, HCW.out.trans HC5.out (fun _ x => x.elim)⟩
    | succ j =>
      rw [show (((j + 1 : Nat)) : Int) - 1 = (j : Int) by omega]
      have d0 : decide ((0 : Int) ≤ (j : Int)) = true := by simp
      have HB2 := Lib.hid (show Blk wr cb 45 (nv ((canA u l (j + 1)).set j (bckF u (l[j]'(by omega)) (canS u (l.drop (j + 1))) 0))) from by rw [show bckF u (l[j]'(by omega)) (canS u (l.drop (j + 1))) 0 = 0 from rfl, canA_zero u l (by omega)]; exact hblk); have HC4 := Lib.hid hchg
      clear hblk hchg
      have hjl : j < l.length := by omega
      have hx2 := HL.out _ (List.getElem_mem hjl)
      have HAJ := Lib.hid (HAT3.out j hjl)
      have HST := Lib.hid (canA_step u l hjl)
      have HCN := Lib.hid (show at0 (canA u l (j + 1)) (j + 1) = canS u (l.drop (j + 1)) by rw [canA_at u l (j + 1) (by omega), if_neg (by omega)])
      have he := canS_lt u (l.drop (j + 1))
      obtain ⟨x, hx⟩ : ∃ x, l[j] = x := ⟨_, rfl⟩
      obtain ⟨e, hee⟩ : ∃ e, canS u (l.drop (j + 1)) = e := ⟨_, rfl⟩
      rw [hx] at HAJ HST hx2 HB2
      rw [hee] at HST HCN he HB2
      clear hx hee
      go_wp2_with fail
      go_loopg [39] 8 (fun gm tv wr => ∃ t : Nat, t ≤ 8 ∧ gm = 8 - t ∧ tv = .int .i64 t ∧ Blk wr cb 45 (nv ((canA u l (j + 1)).set j (bckF u x e t))) ∧ Chg (fun k => k = cb) W3 wr)
      case atStart => exact ⟨0, by omega, by omega, rfl, HB2.out, HC4.out⟩
      case round =>
        clear HB2 HC4
        obtain ⟨t, ht, rfl, rfl, hblk, hchg⟩ := hrel
        have HB2 := Lib.hid hblk; have HC4 := Lib.hid hchg
        clear hblk hchg
        by_cases ht8 : t < 8
        · have dt : decide ((t : Int) < 8) = true := by simp; omega
          have l0 := HC4.out.cell_some HAJ.out HCB.out
          rw [Nat.zero_add] at l0
          have e0 := HB2.out.cell_some (nv_at (i := j + 1) (by rw [List.length_set, canA_len]; omega))
          have hat0 : at0 ((canA u l (j + 1)).set j (bckF u x e t)) (j + 1) = e := by rw [← HCN.out]; unfold at0; rw [List.getElem?_set_ne (by omega)]
          rw [hat0] at e0
          clear hat0
          have lb := low3 t ht8
          have i1 : IntKind.i64.wrap ((j : Int) + 1) = (j : Int) + 1 := IntWalk.i64_in _ (by omega)
          have k1 : (j : Int) < (l.length : Int) := by omega
          have k2 : (j : Int) + 1 < (l.length : Int) + 1 := by omega
          have k3 : (j : Int) < (l.length : Int) + 1 := by omega
          have hq := has_bit4 e he t ht8
          by_cases hb : bit u t = x
          · have db : ((bit u t : Int) == (x : Int)) = true := by simp [hb]
            by_cases hc : e / 2 ^ (t % 4) % 2 = 1
            · rw [if_pos hc] at hq
              have hpn := pow_ne4 t
              have HF := Lib.hid (bck_hit hb hc)
              have ho16 := bckF_lt u x e t ht
              have ho := set_bit2 (bckF u x e t) ho16 t ht8
              clear hb hc
              obtain ⟨pw, hpw⟩ : ∃ pw, 2 ^ (t % 4) = pw := ⟨_, rfl⟩
              rw [hpw] at hq hpn
              obtain ⟨o, hoo⟩ : ∃ o, bckF u x e t = o := ⟨_, rfl⟩
              rw [hoo] at HF ho HB2 ho16
              clear hpw hoo
              go_wp2_with fail
              go_quiet ((go_at_call 23; exact Calls.quiet_of_same (of_any u t hu ht8 _)))
              clear l0 e0 lb i1
              have HC5 := Lib.hid (HC4.out.drewN nq); have HB3 := Lib.hid (HB2.out.drewN nq)
              generalize wr.drewN nq = W4 at HC5 HB3 ⊢
              clear HC4 HB2
              have e1 := HB3.out.cell_some (nv_at (i := j) (by rw [List.length_set, canA_len]; omega))
              have hat0 : at0 ((canA u l (j + 1)).set j o) j = o := by unfold at0; rw [List.getElem?_set_self (by rw [canA_len]; omega)]; rfl
              rw [hat0] at e1
              clear hat0
              have f1 := HB3.out.free j
              go_wp2_with fail
              go_still_tail 9, (by kernel_rfl)
              change wpList _ _ _ _ _ W4.drew
              have HO := Lib.hid ho
              clear e1 f1 hq ho
              have HC6 := Lib.hid HC5.out.drew; have HB4 := Lib.hid HB3.out.drew
              generalize W4.drew = W5 at HC6 HB4 ⊢
              clear HC5 HB3
              have f1 := HB4.out.free j
              have e1 := HB4.out.cell_some (nv_at (i := j) (by rw [List.length_set, canA_len]; omega))
              go_wp2_with fail
              go_roundg (8 - (t + 1))
              case measure => omega
              case rel =>
                refine ⟨t + 1, by omega, rfl, by go_num, ?_, HC6.out.setCell (.inl rfl) _⟩
                rw [HF.out, HO.out]
                have h := HB4.out.set j (.int .i64 ((o ||| 2 ^ (t / 2) : Nat) : Int))
                rw [← nv_set, List.set_set] at h
                exact h
            · rw [if_neg hc] at hq
              have HF := Lib.hid (bck_miss (u := u) (x := x) (e := e) (t := t) (fun h => hc h.2))
              clear hb hc
              go_wp2_with fail
              go_quiet ((go_at_call 23; exact Calls.quiet_of_same (of_any u t hu ht8 _)))
              clear l0 e0 lb i1
              have HC5 := Lib.hid (HC4.out.drewN nq); have HB3 := Lib.hid (HB2.out.drewN nq)
              generalize wr.drewN nq = W4 at HC5 HB3 ⊢
              clear HC4 HB2
              go_wp2_with fail
              go_roundg (8 - (t + 1))
              case measure => omega
              case rel => exact ⟨t + 1, by omega, rfl, by go_num, by rw [HF.out]; exact HB3.out, HC5.out⟩
          · have db : ((bit u t : Int) == (x : Int)) = false := by simp; omega
            have HF := Lib.hid (bck_miss (u := u) (x := x) (e := e) (t := t) (fun h => hb h.1))
            clear hb hq
            go_wp2_with fail
            go_quiet ((go_at_call 23; exact Calls.quiet_of_same (of_any u t hu ht8 _)))
            clear l0 e0 lb i1
            have HC5 := Lib.hid (HC4.out.drewN nq); have HB3 := Lib.hid (HB2.out.drewN nq)
            generalize wr.drewN nq = W4 at HC5 HB3 ⊢
            clear HC4 HB2
            go_wp2_with fail
            go_roundg (8 - (t + 1))
            case measure => omega
            case rel => exact ⟨t + 1, by omega, rfl, by go_num, by rw [HF.out]; exact HB3.out, HC5.out⟩
        · obtain rfl : t = 8 := by omega
          have hB := HB2.out
          rw [HST.out] at hB
          have HB3 := Lib.hid hB
          clear hB
          go_wp2_with fail
          go_roundg j
          case measure => omega
          case rel => exact ⟨j, by omega, rfl, by go_num, HB3.out, HC4.out⟩
end Go.Proofs.YtdopmafhdhahiaaDoor
