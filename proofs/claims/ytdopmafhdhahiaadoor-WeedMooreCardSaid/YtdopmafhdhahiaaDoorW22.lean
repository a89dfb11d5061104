/- The reference's search for an orphan, walked. Its conditions are its premises. -/
import Derived.Test.YtdopmafhdhahiaaDoorW21
set_option linter.unusedVariables false
namespace Go.Proofs.YtdopmafhdhahiaaDoor
open Go.RowKit Go.Maps

theorem info42 : (Tryd.prog.info? 42).map (fun i => (i.zero, i.size, i.bytes)) = some (some (.slice none 0 0), 1, 24) := by kernel_rfl
theorem info9 : (Tryd.prog.info? 9).map (fun i => (i.zero, i.size, i.bytes)) = some (some (.string ⟨#[]⟩), 1, 16) := by kernel_rfl

def rorphR : Option (List Nat) → Value
  | some l => .tuple #[.string (txt l), .bool true]
  | none => .tuple #[.string ⟨#[]⟩, .bool false]

theorem RMem.start {w : World} : RMem w ((((w.alloc (.cells #[.int .i64 1, .int .i64 1, .int .i64 1, .int .i64 1] 3)).alloc (.cells #[.slice (some ⟨w.heap.size, 0, none⟩) 4 4] 42)).alloc (.cells #[.string ⟨#[]⟩] 9)))
    (w.heap.size + 1) 0 1 (w.heap.size + 2) 0 1 [(15, [])] [.slice (some ⟨w.heap.size, 0, none⟩) 4 4] := by
  have b0 := Blk.new w #[.int .i64 1, .int .i64 1, .int .i64 1, .int .i64 1] 3
  obtain ⟨w1, h1⟩ : ∃ w1, w.alloc (.cells #[.int .i64 1, .int .i64 1, .int .i64 1, .int .i64 1] 3) = w1 := ⟨_, rfl⟩
  have s1 : w1.heap.size = w.heap.size + 1 := by rw [← h1]; simp
  have c1 : Chg (fun _ => False) w w1 := by rw [← h1]; exact (Chg.refl _ w).alloc _
  rw [h1] at b0 ⊢
  have b1 := Blk.new w1 #[.slice (some ⟨w.heap.size, 0, none⟩) 4 4] 42
  obtain ⟨w2, h2⟩ : ∃ w2, w1.alloc (.cells #[.slice (some ⟨w.heap.size, 0, none⟩) 4 4] 42) = w2 := ⟨_, rfl⟩
  have s2 : w2.heap.size = w.heap.size + 2 := by rw [← h2]; simp; omega
  have c2 : Chg (fun _ => False) w1 w2 := by rw [← h2]; exact (Chg.refl _ w1).alloc _
  rw [h2] at b1 ⊢
  have b2 := Blk.new w2 #[.string ⟨#[]⟩] 9
  have c3 : Chg (fun _ => False) w2 (w2.alloc (.cells #[.string ⟨#[]⟩] 9)) := (Chg.refl _ w2).alloc _
  rw [s1] at b1
  rw [s2] at b2
  refine ⟨Fnd.start, ?_, ?_, ?_, by omega, by omega, by omega, (c1.trans c2 (fun _ x => x.elim)).trans c3 (fun _ x => x.elim)⟩
  · exact QueB.of_blk (c3.blk b1 (fun x => x)) 1 rfl
  · exact QueB.of_blk b2 1 rfl
  · intro k hk
    have hk0 : k = 0 := by simp at hk; omega
    subst hk0
    refine ⟨w.heap.size, 4, rfl, Nat.le_refl _, by omega, by omega, by simp; omega, ?_⟩
    have b3 := c3.blk (c2.blk b0 (fun x => x)) (fun x => x)
    intro j hj
    have hj4 : j = 0 ∨ j = 1 ∨ j = 2 ∨ j = 3 := by simp [vec] at hj; omega
    rcases hj4 with rfl | rfl | rfl | rfl <;> (rw [Nat.zero_add, b3.cell]; simp [vec])

theorem slice_digit0 (w : World) : (Instr.slice 9 (.string ⟨#[48, 49]⟩) (some (.int .i64 0)) (some (.int .i64 1)) none).run Tryd.prog w = .ok (.string ⟨#[48]⟩) w := by kernel_rfl
theorem slice_digit1 (w : World) : (Instr.slice 9 (.string ⟨#[48, 49]⟩) (some (.int .i64 1)) (some (.int .i64 2)) none).run Tryd.prog w = .ok (.string ⟨#[49]⟩) w := by kernel_rfl
theorem slice_digit {x : Nat} (hx : x < 2) (w : World) : (Instr.slice 9 (.string ⟨#[48, 49]⟩) (some (.int .i64 (x : Int))) (some (.int .i64 ((x : Int) + 1))) none).run Tryd.prog w = .ok (.string (txt [x])) w := by
  have hcase : x = 0 ∨ x = 1 := by omega
  rcases hcase with rfl | rfl
  · exact slice_digit0 w
  · exact slice_digit1 w

theorem nats_of_blk {w : World} {B : Nat} {N : List Nat} (h : Blk w B 3 (nv N)) : NatsAt w B 0 N := fun k hk => by
  rw [Nat.zero_add]
  refine h.cell_some ?_
  unfold nv
  rw [List.getElem?_map, List.getElem?_eq_getElem hk]
  rfl
theorem rsum_vec (e b c : Nat) (he : e < 16) (w : World) (h : NatsAt w b 0 (vec e)) : Calls Tryd.prog 31 #[.slice (some ⟨b, 0, none⟩) 4 c] w fun en w' => en = .returned (.int .i64 (sumV (vec e))) ∧ w' = w :=
  rsum_any (vec e) b 0 c w h (by show 4 ≤ 100; omega) (fun x hx => Nat.le_trans (vec_le e x hx) (by omega))
theorem rinN_stop {u : Nat} {p : Fd} {fs : List Fd} {x : Nat} {l : List Nat} (h : rinN u p fs (x + 1) = .inl l) (hx : x < 2) : rinN u p fs 2 = .inl l := by
  have hcase : x = 0 ∨ x = 1 := by omega
  rcases hcase with rfl | rfl
  · rw [rinN, h]
  · exact h

def newB (gs : List Fd) (E k : Nat) : Bool := decide (E ∉ (gs.take k).map (·.1))
theorem newB_succ (gs : List Fd) (E k : Nat) (hk : k < gs.length) : newB gs E (k + 1) = (newB gs E k && !decide (gs[k].1 = E)) := by
  unfold newB
  rw [List.take_succ_eq_append_getElem hk, List.map_append]
  by_cases h1 : E ∈ (gs.take k).map (·.1)
  · simp only [List.mem_append, h1, true_or, not_true, decide_false, Bool.false_and]
  · by_cases h2 : gs[k].1 = E
    · simp [h2]
    · have h3 : ¬ E = gs[k].1 := fun h => h2 h.symm
      rw [decide_eq_true h1, decide_eq_false h2]
      simp only [List.mem_append, not_or, Bool.not_false, Bool.and_true, decide_eq_true_eq]
      exact ⟨h1, by simpa using h3⟩

set_option maxRecDepth 100000 in
set_option maxHeartbeats 1000000 in
theorem rorphan_any (u : Nat) (hu : u < 256) (w : World) :
    Calls Tryd.prog 20 #[.int .i64 u] w fun e w' => e = .returned (rorphR (rorphV u)) ∧ Chg (fun _ => False) w w' := by
  have HI42 : Hid (∃ i0, Tryd.prog.info? 42 = some i0 ∧ i0.zero = some (.slice none 0 0) ∧ i0.size = 1 ∧ i0.bytes = 24) := Lib.hid (by
    obtain ⟨i0, h0, h1, h2, h3⟩ := info_parts info42
    exact ⟨i0, h0, h1, h2, h3⟩)
  have HI9 : Hid (∃ i0, Tryd.prog.info? 9 = some i0 ∧ i0.zero = some (.string ⟨#[]⟩) ∧ i0.size = 1 ∧ i0.bytes = 16) := Lib.hid (by
    obtain ⟨i0, h0, h1, h2, h3⟩ := info_parts info9
    exact ⟨i0, h0, h1, h2, h3⟩)
  have HST := Lib.hid (RMem.start (w := w))
  go_enter Tryd.func20, Tryd.ntmps20
  go_wp2_with fail
  generalize ((w.alloc (.cells #[.int .i64 1, .int .i64 1, .int .i64 1, .int .i64 1] 3)).alloc (.cells #[.slice (some ⟨w.heap.size, 0, none⟩) 4 4] 42)).alloc (.cells #[.string ⟨#[]⟩] 9) = W at HST ⊢
  go_loopg [6, 4, 5] 17 (fun gm iv sv wv wr => ∃ (i sb so sc wb wo wc : Nat) (fs : List Fd) (vs : List Value), gm = 17 - i ∧ i ≤ fs.length ∧ iv = .int .i64 i ∧ sv = .slice (some ⟨sb, so, none⟩) fs.length sc ∧ wv = .slice (some ⟨wb, wo, none⟩) fs.length wc ∧ rorphF u (17 - i) i fs = rorphV u ∧ RMem w wr sb so sc wb wo wc fs vs)
  case atStart => exact ⟨0, _, 0, 1, _, 0, 1, [(15, [])], _, rfl, by simp, rfl, rfl, rfl, rfl, HST.out⟩
  case round =>
    clear HST
    obtain ⟨i, sb, so, sc, wb, wo, wc, fs, vs, rfl, hile, rfl, rfl, rfl, hO, hM⟩ := hrel
    have HO := Lib.hid hO; have HM := Lib.hid hM
    have hlen := hM.fnd.len
    clear hO hM
    by_cases hlt : i < fs.length
    · obtain ⟨p, hp⟩ : ∃ p, fs[i] = p := ⟨_, rfl⟩
      have hip : fs[i]? = some p := by rw [List.getElem?_eq_getElem hlt, hp]
      have hsm := HM.out.fnd.small p (by rw [← hp]; exact List.getElem_mem hlt)
      have hsh := HM.out.fnd.short i hlt
      rw [hp] at hsh
      have HSM := Lib.hid hsm; have HSH := Lib.hid hsh; have HIP := Lib.hid hip; have HFF := Lib.hid HM.out.fnd
      have hO2 : rorphF u (17 - i) i fs = (match rinN u p fs 2 with | .inl l => some l | .inr gs => rorphF u (17 - (i + 1)) (i + 1) gs) := by
        rw [show 17 - i = (17 - (i + 1)) + 1 by omega, rorphF, hip]
        rfl
      rw [HO.out] at hO2
      have HO2 := Lib.hid hO2
      clear hO2 hip hp hsm hsh HO
      obtain ⟨n, hn⟩ : ∃ n, fs.length = n := ⟨_, rfl⟩
      have HN := Lib.hid hn
      rw [hn] at hlt hlen hile ⊢
      clear hn
      have di : decide ((i : Int) < (n : Int)) = true := by simp; omega
      go_wp2_with fail
      go_loopg [7, 4, 5] 2 (fun gm xv sv wv w3 => ∃ (x sb so sc wb wo wc : Nat) (gs : List Fd) (vs : List Value), x ≤ 2 ∧ gm = 2 - x ∧ xv = .int .i64 x ∧ sv = .slice (some ⟨sb, so, none⟩) gs.length sc ∧ wv = .slice (some ⟨wb, wo, none⟩) gs.length wc ∧ rinN u p fs x = .inr gs ∧ gs[i]? = some p ∧ RMem w w3 sb so sc wb wo wc gs vs)
      case atStart => exact ⟨0, sb, so, sc, wb, wo, wc, fs, vs, by omega, rfl, rfl, by rw [HN.out], by rw [HN.out], rfl, HIP.out, HM.out⟩
      case round =>
        clear HM
        obtain ⟨x, sb, so, sc, wb, wo, wc, gs, vs, hx, rfl, rfl, rfl, rfl, hR, hgi, hM⟩ := hrel
        have HR := Lib.hid hR; have HM := Lib.hid hM; have HGI := Lib.hid hgi
        clear hR hM hgi
        by_cases hx2 : x < 2
        · have dx : decide ((x : Int) < 2) = true := by simp; omega
          have hil : i < gs.length := (List.getElem?_eq_some_iff.1 HGI.out).1
          have hgp : gs[i] = p := (List.getElem?_eq_some_iff.1 HGI.out).2
          obtain ⟨g, c, hvi, hg0, hgs, hgw, hgl, hgat⟩ := HM.out.each i hil
          rw [hgp] at hgat
          have c0 := HM.out.sets.at_ i _ hvi
          have HAT := Lib.hid hgat
          obtain ⟨m, hm⟩ : ∃ m, gs.length = m := ⟨_, rfl⟩
          have hm16 := HM.out.fnd.len
          rw [hm] at hil hm16 ⊢
          have HMM := Lib.hid hm
          clear hm hgp hgat hvi
          have hnat := nats_new wr x
          have HC1 := Lib.hid ((Chg.refl (fun _ => False) wr).alloc (.cells #[.int .i64 (x : Int)] 3))
          have HNAT := Lib.hid hnat
          have c1 := HC1.out.cell_some c0 (fun x => x)
          clear hnat
          go_wp2_with fail
          obtain ⟨W1, hW1⟩ : ∃ W1, wr.alloc (.cells #[.int .i64 (x : Int)] 3) = W1 := ⟨_, rfl⟩
          rw [hW1] at HNAT HC1 ⊢
          clear c0 c1 hW1
          have HWY := Lib.hid (rways_any u x (vec p.1) wr.heap.size 0 1 g 0 c W1 hu rfl (vec_le _) HNAT.out (HAT.out.chg HC1.out (fun x => x)))
          obtain ⟨g4, hg4⟩ : ∃ g4, W1.heap.size = g4 := ⟨_, rfl⟩
          rw [hg4] at HWY
          have HG4 := Lib.hid hg4
          clear hg4
          refine HWY.out.mono ?_
          rintro e w4 ⟨rfl, hb4, hc4⟩
          have HN4 := Lib.hid (nats_of_blk hb4); have HC4 := Lib.hid (HC1.out.trans hc4 (fun _ x => x.elim))
          have hw8 := waysF_le u x (vec p.1) (vec_le _) 8
          have HSL := Lib.hid (rsmall_any (waysV u x (vec p.1)) g4 0 4 w4 HN4.out hw8.1 (fun y hy => Nat.le_trans (hw8.2 y hy) (by omega)))
          clear hb4 hc4 HWY hw8
          go_wp2_with fail
          refine HSL.out.mono ?_
          rintro e w5 ⟨v, rfl, ho5, hc5⟩
          rw [vec_next hu HSM.out.1 hx2] at ho5
          obtain ⟨a5, g5, c5, rfl, ha5, hat5, hge5⟩ := owns_nats ho5
          obtain rfl := ha5.resolve_left (by simp [vec])
          have HC5 := Lib.hid (HC4.out.trans hc5 (fun _ x => x.elim))
          have HAT5 := Lib.hid hat5
          have HG5 := Lib.hid (show wr.heap.size ≤ g5 from Nat.le_trans HC4.out.size hge5)
          have HM5 := Lib.hid (HM.out.kept HC5.out)
          have hE16 : nextV u p.1 x < 16 := nextF_lt _ _ _ _
          obtain ⟨E, hE⟩ : ∃ E, nextV u p.1 x = E := ⟨_, rfl⟩
          have HE := Lib.hid hE
          rw [hE] at HAT5 hE16
          rw [show (vec (nextV u p.1 x)).length = 4 from rfl]
          clear ha5 hat5 hge5 ho5 hc5 HSL HN4 hE HC4 HC1 HNAT HG4
          have cw := HM5.out.words.at_ i (.string (txt p.2)) (by unfold wordV; rw [List.getElem?_map, HGI.out]; rfl)
          have hsl := slice_digit hx2
          have hcat := cat_snoc p.2 x (by have := HSH.out; omega)
          have i1 : IntKind.i64.wrap ((x : Int) + 1) = (x : Int) + 1 := IntWalk.i64_in _ (by omega)
          have k1 : (i : Int) < (m : Int) := by omega
          go_wp2_with fail
          go_quiet (fail)
          clear cw hsl hcat i1 k1
          have HM6 := Lib.hid (HM5.out.kept ((Chg.refl _ w5).drewN nq))
          have HAT6 := Lib.hid (HAT5.out.chg ((Chg.refl (fun _ => False) w5).drewN nq) (fun x => x))
          have HG6 := Lib.hid (show wr.heap.size ≤ (w5.drewN nq).heap.size from HC5.out.size)
          have hg5l : g5 < w5.heap.size := World.cell_lt (HAT5.out 0 (by simp [vec]))
          have HGL := Lib.hid (show g5 < (w5.drewN nq).heap.size from hg5l)
          generalize w5.drewN nq = W6 at HM6 HAT6 HG6 HGL ⊢
          clear HM5 HAT5 hg5l HC5
          have hsum := sum_vec hE16
          have HSU := Lib.hid (rsum_vec E g5 c5 hE16 W6 HAT6.out)
          obtain ⟨S, hS⟩ : ∃ S, sumV (vec E) = S := ⟨_, rfl⟩
          rw [hS] at hsum HSU
          clear hS
          go_wp2_with fail
          refine HSU.out.mono ?_
          rintro e w7 ⟨rfl, rfl⟩
          by_cases hz : E = 0
          · have dz : ((S : Int) == 0) = true := by simp; omega
            have HRZ := Lib.hid (rinN_stop (rinN_hit HR.out (by rw [HE.out]; exact hz)) hx2)
            clear hz hsum
            go_wp2_with fail
            go_ret2
            rw [HO2.out, HRZ.out]
            exact ⟨rfl, HM6.out.chg⟩
          · have dz : ((S : Int) == 0) = false := by simp; omega
            have HRO := Lib.hid (rinN_on HR.out (by rw [HE.out]; exact hz))
            clear hz hsum
            go_wp2_with fail
            go_loopg [11, 10] m (fun gm kv nb w8 => ∃ k : Nat, k ≤ m ∧ gm = m - k ∧ kv = .int .i64 k ∧ nb = .bool (newB gs E k) ∧ Chg (fun _ => False) w7 w8)
            case atStart => exact ⟨0, by omega, by omega, rfl, rfl, Chg.refl _ _⟩
            case round =>
              obtain ⟨k, hk, rfl, rfl, rfl, hc8⟩ := hrel
              have HC8 := Lib.hid hc8
              clear hc8
              by_cases hkm : k < m
              · have dk : decide ((k : Int) < (m : Int)) = true := by simp; omega
                go_wp2_with fail
                have hkl : k < gs.length := by have := HMM.out; omega
                obtain ⟨gk, ck, hvk, _, _, _, _, hgat⟩ := HM6.out.each k hkl
                have cs := HM6.out.sets.at_ k _ hvk
                have hak := (HM6.out.fnd.small _ (List.getElem_mem hkl)).1
                have HNB := Lib.hid (newB_succ gs E k hkl)
                obtain ⟨A, hA⟩ : ∃ A, gs[k].1 = A := ⟨_, rfl⟩
                rw [hA] at hgat hak HNB
                have HGA := Lib.hid hgat; have HCS := Lib.hid cs
                have HS4 := Lib.hid (same_four hak hE16)
                clear hgat hvk hA cs hak
                go_loopg [13, 12] 4 (fun gm qv sv w9 => ∃ q : Nat, q ≤ 4 ∧ gm = 4 - q ∧ qv = .int .i64 q ∧ sv = .bool (sameU A E q) ∧ Chg (fun _ => False) w7 w9)
                case atStart => exact ⟨0, by omega, by omega, rfl, rfl, HC8.out⟩
                case round =>
                  clear HC8
                  obtain ⟨q, hq, rfl, rfl, rfl, hc9⟩ := hrel
                  have HC9 := Lib.hid hc9
                  clear hc9
                  by_cases hq4 : q < 4
                  · have dq : decide ((q : Int) < 4) = true := by simp; omega
                    have HSS := Lib.hid (show sameU A E (q + 1) = (sameU A E q && (at0 (vec A) q == at0 (vec E) q)) from rfl)
                    obtain ⟨sb, hsb⟩ : ∃ sb, sameU A E q = sb := ⟨_, rfl⟩
                    rw [hsb] at HSS ⊢
                    clear hsb
                    have cs := HC9.out.cell_some HCS.out (fun x => x)
                    have ck := nats_at (HGA.out.chg HC9.out (fun x => x)) (i := q) hq4
                    have ce := nats_at (HAT6.out.chg HC9.out (fun x => x)) (i := q) hq4
                    obtain ⟨X, hX⟩ : ∃ X, at0 (vec A) q = X := ⟨_, rfl⟩
                    obtain ⟨Y, hY⟩ : ∃ Y, at0 (vec E) q = Y := ⟨_, rfl⟩
                    rw [hX] at ck HSS
                    rw [hY] at ce HSS
                    rw [Nat.zero_add] at ck ce
                    clear hX hY
                    have i1 : (k : Int) < (m : Int) := by omega
                    have i2 : (q : Int) < 4 := by omega
                    cases sb with
                    | true =>
                      go_wp2_with fail
                      go_quiet (fail)
                      clear cs ck ce i1 i2
                      have HC10 := Lib.hid (HC9.out.drewN nq)
                      generalize wr.drewN nq = W10 at HC10 ⊢
                      go_wp2_with fail
                      go_roundg (4 - (q + 1))
                      case measure => omega
                      case rel =>
                        refine ⟨q + 1, by omega, rfl, by go_num, ?_, HC10.out⟩
                        rw [HSS.out]
                        by_cases hxy : X = Y
                        · simp [hxy]
                        · have : ¬ (X : Int) = (Y : Int) := by omega
                          rw [beq_eq_false_iff_ne.2 hxy, beq_eq_false_iff_ne.2 this]
                          rfl
                    | false =>
                      go_wp2_with fail
                      go_quiet (fail)
                      clear cs ck ce i1 i2
                      have HC10 := Lib.hid (HC9.out.drewN nq)
                      generalize wr.drewN nq = W10 at HC10 ⊢
                      go_wp2_with fail
                      go_roundg (4 - (q + 1))
                      case measure => omega
                      case rel => exact ⟨q + 1, by omega, rfl, by go_num, by rw [HSS.out]; rfl, HC10.out⟩
                  · obtain rfl : q = 4 := by omega
                    have hs4 := HS4.out
                    rw [hs4]
                    obtain ⟨sb, hsb⟩ : ∃ sb, decide (A = E) = sb := ⟨_, rfl⟩
                    obtain ⟨nb, hnb⟩ : ∃ nb, newB gs E k = nb := ⟨_, rfl⟩
                    rw [hsb, hnb] at HNB
                    rw [hsb, hnb]
                    clear hsb hnb hs4 HS4
                    cases sb <;> cases nb
                    all_goals
                      go_wp2_with fail
                      go_roundg (m - (k + 1))
                      case measure => omega
                      case rel => exact ⟨k + 1, by omega, rfl, by go_num, by rw [HNB.out]; rfl, HC9.out⟩
              · obtain rfl : k = m := by omega
                have HNB := Lib.hid (show newB gs E k = decide (E ∉ gs.map (·.1)) by unfold newB; rw [← HMM.out, List.take_length])
                by_cases hin : E ∈ gs.map (·.1)
                · have hnb : newB gs E k = false := by rw [HNB.out]; simpa using hin
                  have HRP := Lib.hid (HRO.out.trans (congrArg Sum.inr (pushR_old (by rw [HE.out]; exact hin))))
                  rw [hnb]
                  clear hin hnb HNB
                  go_wp2_with fail
                  go_roundg (2 - (x + 1))
                  case measure => omega
                  case rel => exact ⟨x + 1, sb, so, sc, wb, wo, wc, gs, vs, by omega, rfl, by go_num, by rw [HMM.out], by rw [HMM.out], HRP.out, HGI.out, HM6.out.kept HC8.out⟩
                · have hnb : newB gs E k = true := by rw [HNB.out]; simpa using hin
                  have HRP := Lib.hid (HRO.out.trans (congrArg Sum.inr (pushR_new (by rw [HE.out]; exact hin))))
                  rw [hnb]
                  have HM8 := Lib.hid (HM6.out.kept HC8.out)
                  clear hnb HNB
                  have HFP := Lib.hid (show Fnd (gs ++ [(E, p.2 ++ [x])]) ∧ (gs ++ [(E, p.2 ++ [x])])[i]? = some p from by
                    have h := HM8.out.fnd.push u HGI.out hx2
                    rw [pushR_new (by rw [HE.out]; exact hin), HE.out] at h
                    exact h)
                  rw [HE.out] at HRP
                  clear hin
                  have hq1 : QueB wr 1 sb so sc k vs := by rw [← HMM.out]; exact HM8.out.sets
                  have HQ1 := Lib.hid (hq1.chg ((Chg.refl (fun _ => False) wr).alloc (.cells #[.slice (some ⟨g5, 0, none⟩) 4 c5] 42)) (fun x => x))
                  have HX1 := Lib.hid (Blk.new wr #[.slice (some ⟨g5, 0, none⟩) 4 c5] 42)
                  have HC9 := Lib.hid ((Chg.refl (fun _ => False) wr).alloc (.cells #[.slice (some ⟨g5, 0, none⟩) 4 c5] 42))
                  clear hq1
                  go_wp2_with (at_builtin; refine wpList_append_que rfl (.tmp 80) (.tmp 82) 53 rfl 42 HI42.out.choose _ 1 24 Tryd.underlying53 HI42.out.choose_spec.1 HI42.out.choose_spec.2.1 HI42.out.choose_spec.2.2.1 HI42.out.choose_spec.2.2.2 rfl (by decide) sb so sc k _ (by simp [Act.eval]) HQ1.out ⟨wr.heap.size, 0, none⟩ 1 1 [.slice (some ⟨g5, 0, none⟩) 4 c5] (by simp [Act.eval]) rfl (by decide) (fun j v hj => by rw [add_plain, Nat.zero_add]; exact HX1.out.cell_some hj) (by intro v hv; simp at hv; subst hv; rfl) (by unfold maxLen; omega) (by omega) ?_)
                  intro sb2 so2 sc2 w10 hq2 hg2 hc2
                  have HQ2 := Lib.hid hq2; have HG2 := Lib.hid hg2; have HC2 := Lib.hid hc2
                  clear hq2 hg2 hc2 HQ1 HX1
                  have hq3 : QueB w10 1 wb wo wc k (wordV gs) := by rw [← HMM.out]; exact ((HM8.out.words.chg HC9.out (fun x => x)).chg HC2.out (fun h => HM8.out.apart h.symm))
                  have HQ3 := Lib.hid (hq3.chg ((Chg.refl (fun _ => False) w10).alloc (.cells #[.string (txt (p.2 ++ [x]))] 9)) (fun x => x))
                  have HX3 := Lib.hid (Blk.new w10 #[.string (txt (p.2 ++ [x]))] 9)
                  have HC10 := Lib.hid ((Chg.refl (fun _ => False) w10).alloc (.cells #[.string (txt (p.2 ++ [x]))] 9))
                  clear hq3
                  go_wp2_with (at_builtin; refine wpList_append_que rfl (.tmp 84) (.tmp 86) 54 rfl 9 HI9.out.choose _ 1 16 Tryd.underlying54 HI9.out.choose_spec.1 HI9.out.choose_spec.2.1 HI9.out.choose_spec.2.2.1 HI9.out.choose_spec.2.2.2 rfl (by decide) wb wo wc k _ (by simp [Act.eval]) HQ3.out ⟨w10.heap.size, 0, none⟩ 1 1 [.string (txt (p.2 ++ [x]))] (by simp [Act.eval]) rfl (by decide) (fun j v hj => by rw [add_plain, Nat.zero_add]; exact HX3.out.cell_some hj) (by intro v hv; simp at hv; subst hv; rfl) (by unfold maxLen; omega) (by omega) ?_)
                  intro wb2 wo2 wc2 w12 hq4 hg4 hc4
                  have HQ4 := Lib.hid hq4; have HG4 := Lib.hid hg4; have HC4 := Lib.hid hc4
                  clear hq4 hg4 hc4 HQ3 HX3
                  go_wp2_with fail
                  go_roundg (2 - (x + 1))
                  case measure => omega
                  case rel =>
                    have hM12 : RMem w w12 sb2 so2 sc2 wb2 wo2 wc2 (gs ++ [(E, p.2 ++ [x])]) (vs ++ [.slice (some ⟨g5, 0, none⟩) 4 c5]) := by
                      have hb1 := HM8.out.chg.size
                      have hs8 := HC8.out.size
                      have hg5 := HG5.out
                      have hsl := HM.out.sets.lt
                      have hwl := HM.out.words.lt
                      have hbm := HM.out.chg.size
                      refine HM8.out.push (c := c5) (g := g5) (by omega) (Nat.lt_of_lt_of_le HGL.out hs8) (by omega) (by omega) (HAT6.out.chg HC8.out (fun x => x)) (by rw [HMM.out]; exact HQ2.out) ?_ ((HC9.out.mono (fun _ h => h.elim)).trans HC2.out (fun _ h => .inl h)) HC10.out (by rw [HMM.out]; exact HQ4.out) (by rw [World.size_alloc]; exact HG4.out) HC4.out HFP.out.1
                      rcases HG2.out with h | h
                      · exact .inl h
                      · exact .inr (by omega)
                    refine ⟨x + 1, sb2, so2, sc2, wb2, wo2, wc2, gs ++ [(E, p.2 ++ [x])], _, by omega, rfl, by go_num, ?_, ?_, HRP.out, HFP.out.2, hM12⟩
                    · rw [List.length_append, List.length_singleton, HMM.out]
                    · rw [List.length_append, List.length_singleton, HMM.out]
        · obtain rfl : x = 2 := by omega
          have HOR := HO2.out
          rw [HR.out] at HOR
          have HORR := Lib.hid HOR
          have hgl : i + 1 ≤ gs.length := (List.getElem?_eq_some_iff.1 HGI.out).1
          clear HOR
          go_wp2_with fail
          go_roundg (17 - (i + 1))
          case measure => omega
          case rel => exact ⟨i + 1, sb, so, sc, wb, wo, wc, gs, vs, rfl, hgl, by go_num, rfl, rfl, HORR.out.symm, HM.out⟩
    · obtain rfl : i = fs.length := by omega
      have hn : rorphV u = none := by
        rw [← HO.out, show 17 - fs.length = (16 - fs.length) + 1 by omega, rorphF, List.getElem?_eq_none (Nat.le_refl _)]
      have HNN := Lib.hid hn
      clear hn
      go_wp2_with fail
      go_ret2
      rw [HNN.out]
      exact ⟨rfl, HM.out.chg⟩
end Go.Proofs.YtdopmafhdhahiaaDoor
