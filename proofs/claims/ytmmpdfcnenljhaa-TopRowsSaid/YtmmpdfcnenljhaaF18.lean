/- Stands of the program, walked. Its conditions are its premises. -/
import Derived.Test.YtmmpdfcnenljhaaF17
set_option linter.unusedVariables false
namespace Go.Proofs.Ytmmpdfcnenljhaa
open Go.RowKit

/-- A ratio and an error. -/
def RPost (r : Int × Int × Int) (w : World) (e : Ending) (w' : World) : Prop := e = .returned (.tuple #[.agg #[.int .i64 r.1, .int .i64 r.2.1], .int .i64 r.2.2]) ∧ Chg (fun _ => False) w w'

/-- What is kept of the world by Stands: the ratio, the result's cells. -/
structure SW (w : World) (pb : Nat) (p q : Int) (w' : World) : Prop where
  box : Blk w' pb 32 [.int .i64 p, .int .i64 q]
  res : Blk w' (pb + 1) 32 [.int .i64 0, .int .i64 0]
  chg : Chg (fun _ => False) w w'
theorem SW.next {w w' w'' : World} {pb : Nat} {p q : Int} (h : SW w pb p q w') (hc : Chg (fun _ => False) w' w'') : SW w pb p q w'' :=
  ⟨hc.blk h.box (fun x => x), hc.blk h.res (fun x => x), h.chg.trans hc (fun _ x => x.elim)⟩
theorem SW.set {w w' : World} {pb : Nat} {p q : Int} (h : SW w pb p q w') (hz : w.heap.size ≤ pb) {g i : Nat} (hg : w.heap.size ≤ g) (h1 : g ≠ pb) (h2 : g ≠ pb + 1) (v : Value) : SW w pb p q (w'.setCell ⟨g, i, none⟩ v) :=
  ⟨h.box.setOther h1 v, h.res.setOther h2 v, h.chg.setCell (.inr hg) v⟩
/-- The result is stored. -/
theorem SW.fin {w w' : World} {pb : Nat} {p q : Int} (h : SW w pb p q w') (hz : w.heap.size ≤ pb) (x y : Int) :
    Blk ((w'.setCell ⟨pb + 1, 0, none⟩ (.int .i64 x)).setCell ⟨pb + 1, 1, none⟩ (.int .i64 y)) (pb + 1) 32 [.int .i64 x, .int .i64 y] ∧
      Chg (fun _ => False) w ((w'.setCell ⟨pb + 1, 0, none⟩ (.int .i64 x)).setCell ⟨pb + 1, 1, none⟩ (.int .i64 y)) :=
  ⟨(h.res.set 0 (.int .i64 x)).set 1 (.int .i64 y), (h.chg.setCell (a := ⟨pb + 1, 0, none⟩) (.inr (by show _ ≤ pb + 1; omega)) (.int .i64 x)).setCell (a := ⟨pb + 1, 1, none⟩) (.inr (by show _ ≤ pb + 1; omega)) (.int .i64 y)⟩

theorem wrap_term (D x : Int) {P Q : Nat} (h : P ≤ Q) (k m : Nat) :
    wrap64 (wrap64 D + wrap64 (wrap64 (x * wrap64 ((P : Int) ^ k)) * wrap64 (((Q : Int) - (P : Int)) ^ (m - k)))) = wrap64 (D + x * ((wgt P (Q - P) m k : Nat) : Int)) := by
  rw [wrap64_add, wrap64_add_r, wrap64_mul_r x, ← wrap64_add_r D, wrap64_mul, wrap64_mul_r, wrap64_add_r]
  unfold wgt
  rw [Int.natCast_mul, Int.natCast_pow, Int.natCast_pow, Int.natCast_sub h, Int.mul_assoc]

set_option maxRecDepth 100000 in
set_option maxHeartbeats 4000000 in
theorem Stands_any (n : Int) (l : List Fe) (p q : Int) (a : Option Addr) (cap b off : Nat) (w : World) (hs : FencesAt w b off l) (ha : l = [] ∨ a = some ⟨b, off, none⟩) :
    Calls Try.prog 12 #[.int .i64 n, .slice a l.length cap, .agg #[.int .i64 p, .int .i64 q]] w (RPost (standsE n l p q) w) := by
  have HS := Lib.hid hs; have HA := Lib.hid ha
  clear hs ha
  obtain ⟨pb, hpb⟩ : ∃ pb, w.heap.size = pb := ⟨_, rfl⟩
  have HW0 : Hid (SW w pb p q ((w.alloc (.cells #[.int .i64 p, .int .i64 q] 32)).alloc (.cells #[.int .i64 0, .int .i64 0] 32))) := Lib.hid (by
    refine ⟨hpb ▸ (Blk.new w #[.int .i64 p, .int .i64 q] 32).alloc (.cells #[.int .i64 0, .int .i64 0] 32), ?_, ((Chg.refl (fun _ => False) w).alloc (.cells #[.int .i64 p, .int .i64 q] 32)).alloc (.cells #[.int .i64 0, .int .i64 0] 32)⟩
    have h := Blk.new (w.alloc (.cells #[.int .i64 p, .int .i64 q] 32)) #[.int .i64 0, .int .i64 0] 32
    rw [← hpb]
    simpa using h)
  go_enter Try.func12, Try.ntmps12
  go_wp2_with fail
  have hz : w.heap.size ≤ pb := by omega
  clear hpb
  generalize (w.alloc (.cells #[.int .i64 p, .int .i64 q] 32)).alloc (.cells #[.int .i64 0, .int .i64 0] 32) = W at HW0 ⊢
  refine (of_any n l a cap b off W (HS.out.chg HW0.out.chg (fun x => x)) HA.out).mono ?_
  rintro e w1 ⟨hc1, ⟨h0, rfl⟩ | ⟨h0, gp, rfl, hp⟩⟩
  · have hq : (gardenE n l != 0) = true := by simpa using h0
    have HR := Lib.hid (standsE_err (p := p) (q := q) h0); have HW1 := Lib.hid (HW0.out.next hc1)
    clear h0 hc1
    as_aux_lemma =>
      have r0 := HW1.out.res.cell_some (i := 0) rfl; have r1 := HW1.out.res.cell_some (i := 1) rfl
      have f0 := HW1.out.res.free 0; have f1 := HW1.out.res.free 1
      go_wp2_with fail
      obtain ⟨hF, hcF⟩ := HW1.out.fin hz 0 0
      generalize (w1.setCell ⟨pb + 1, 0, none⟩ (.int .i64 0)).setCell ⟨pb + 1, 1, none⟩ (.int .i64 0) = WF at hF hcF ⊢
      have g0 := hF.cell_some (i := 0) rfl; have g1 := hF.cell_some (i := 1) rfl
      refine bodyPost_ret (v := .tuple #[.agg #[.int .i64 0, .int .i64 0], .int .i64 (gardenE n l)]) (by simp [results, Try.f12, go_sem, g0, g1]) rfl ?_
      exact ⟨by rw [HR.out], hcF⟩
  · have hv := valid_of h0
    obtain ⟨N, rfl⟩ : ∃ N : Nat, n = N := ⟨n.toNat, by have := hv.n1; omega⟩
    have H0 := Lib.hid h0; have HW1 := Lib.hid (HW0.out.next hc1); have HP := Lib.hid hp; have HV := Lib.hid hv
    clear h0 hc1 hp hv
    have c0 := HW1.out.box.cell_some (i := 0) rfl; have c1 := HW1.out.box.cell_some (i := 1) rfl
    by_cases k1 : q < 1
    · have d1 : decide (q < 1) = true := by simpa using k1
      have HR := Lib.hid (standsE_arg (p := p) (q := q) H0.out (fun h => by unfold partOk at h; omega))
      clear k1
      as_aux_lemma =>
        have r0 := HW1.out.res.cell_some (i := 0) rfl; have r1 := HW1.out.res.cell_some (i := 1) rfl
        have f0 := HW1.out.res.free 0; have f1 := HW1.out.res.free 1
        go_wp2_with fail
        obtain ⟨hF, hcF⟩ := HW1.out.fin hz 0 0
        generalize (w1.setCell ⟨pb + 1, 0, none⟩ (.int .i64 0)).setCell ⟨pb + 1, 1, none⟩ (.int .i64 0) = WF at hF hcF ⊢
        have g0 := hF.cell_some (i := 0) rfl; have g1 := hF.cell_some (i := 1) rfl
        refine bodyPost_ret (v := .tuple #[.agg #[.int .i64 0, .int .i64 0], .int .i64 (2)]) (by simp [results, Try.f12, go_sem, g0, g1]) rfl ?_
        exact ⟨by rw [HR.out], hcF⟩
    · have d1 : decide (q < 1) = false := by simpa using k1
      by_cases k2 : 8 < q
      · have d2 : decide (8 < q) = true := by simpa using k2
        have HR := Lib.hid (standsE_arg (p := p) (q := q) H0.out (fun h => by unfold partOk at h; omega))
        clear k2
        as_aux_lemma =>
          have r0 := HW1.out.res.cell_some (i := 0) rfl; have r1 := HW1.out.res.cell_some (i := 1) rfl
          have f0 := HW1.out.res.free 0; have f1 := HW1.out.res.free 1
          go_wp2_with fail
          obtain ⟨hF, hcF⟩ := HW1.out.fin hz 0 0
          generalize (w1.setCell ⟨pb + 1, 0, none⟩ (.int .i64 0)).setCell ⟨pb + 1, 1, none⟩ (.int .i64 0) = WF at hF hcF ⊢
          have g0 := hF.cell_some (i := 0) rfl; have g1 := hF.cell_some (i := 1) rfl
          refine bodyPost_ret (v := .tuple #[.agg #[.int .i64 0, .int .i64 0], .int .i64 (2)]) (by simp [results, Try.f12, go_sem, g0, g1]) rfl ?_
          exact ⟨by rw [HR.out], hcF⟩
      · have d2 : decide (8 < q) = false := by simpa using k2
        by_cases k3 : p < 0
        · have d3 : decide (p < 0) = true := by simpa using k3
          have HR := Lib.hid (standsE_arg (p := p) (q := q) H0.out (fun h => by unfold partOk at h; omega))
          clear k3
          as_aux_lemma =>
            have r0 := HW1.out.res.cell_some (i := 0) rfl; have r1 := HW1.out.res.cell_some (i := 1) rfl
            have f0 := HW1.out.res.free 0; have f1 := HW1.out.res.free 1
            go_wp2_with fail
            obtain ⟨hF, hcF⟩ := HW1.out.fin hz 0 0
            generalize (w1.setCell ⟨pb + 1, 0, none⟩ (.int .i64 0)).setCell ⟨pb + 1, 1, none⟩ (.int .i64 0) = WF at hF hcF ⊢
            have g0 := hF.cell_some (i := 0) rfl; have g1 := hF.cell_some (i := 1) rfl
            refine bodyPost_ret (v := .tuple #[.agg #[.int .i64 0, .int .i64 0], .int .i64 (2)]) (by simp [results, Try.f12, go_sem, g0, g1]) rfl ?_
            exact ⟨by rw [HR.out], hcF⟩
        · have d3 : decide (p < 0) = false := by simpa using k3
          by_cases k4 : q < p
          · have d4 : decide (q < p) = true := by simpa using k4
            have HR := Lib.hid (standsE_arg (p := p) (q := q) H0.out (fun h => by unfold partOk at h; omega))
            clear k4
            as_aux_lemma =>
              have r0 := HW1.out.res.cell_some (i := 0) rfl; have r1 := HW1.out.res.cell_some (i := 1) rfl
              have f0 := HW1.out.res.free 0; have f1 := HW1.out.res.free 1
              go_wp2_with fail
              obtain ⟨hF, hcF⟩ := HW1.out.fin hz 0 0
              generalize (w1.setCell ⟨pb + 1, 0, none⟩ (.int .i64 0)).setCell ⟨pb + 1, 1, none⟩ (.int .i64 0) = WF at hF hcF ⊢
              have g0 := hF.cell_some (i := 0) rfl; have g1 := hF.cell_some (i := 1) rfl
              refine bodyPost_ret (v := .tuple #[.agg #[.int .i64 0, .int .i64 0], .int .i64 (2)]) (by simp [results, Try.f12, go_sem, g0, g1]) rfl ?_
              exact ⟨by rw [HR.out], hcF⟩
          · have d4 : decide (q < p) = false := by simpa using k4
            obtain ⟨P, rfl⟩ : ∃ P : Nat, p = P := ⟨p.toNat, by omega⟩
            obtain ⟨Q, rfl⟩ : ∃ Q : Nat, q = Q := ⟨q.toNat, by omega⟩
            have hPQ : P ≤ Q := by omega
            have hQ8 : Q ≤ 8 := by omega
            have hQ1 : 1 ≤ Q := by omega
            clear k1 k2 k3 k4
            go_wp2_with fail
            refine (gcd_nat P Q w1 (by omega) (by omega)).mono ?_
            rintro e w2 ⟨rfl, z, rfl⟩
            have HW2 := Lib.hid (HW1.out.next (grow_chg w1 z)); have HP2 := Lib.hid (HP.out.chg (grow_chg w1 z) (fun x => x))
            generalize w1.grow z = w2 at HW2 HP2 ⊢
            clear c0 c1 HW1 HP d1 d2 d3 d4
            by_cases k5 : Nat.gcd P Q = 1
            · have HK := Lib.hid (show partOk P Q from ⟨by omega, by omega, by omega, by omega, by simpa using k5⟩)
              have d5 : (((Nat.gcd P Q : Nat) : Int) != 1) = false := by rw [k5]; rfl
              have HR := Lib.hid (standsE_ok H0.out HK.out)
              obtain ⟨gg, hgg⟩ : ∃ gg, Nat.gcd P Q = gg := ⟨_, rfl⟩
              rw [hgg] at d5 ⊢
              clear k5 hgg
              have hl14 := HV.out.len
              go_wp2_with fail
              clear d5
              refine (all_any N l a cap gp w2 hl14 HP2.out).mono ?_
              rintro e w3 ⟨rfl, hc3⟩
              have HW3 := Lib.hid (HW2.out.next hc3); have HP3 := Lib.hid (HP2.out.chg hc3 (fun x => x))
              clear hc3 HW2 HP2
              have HLT := Lib.hid (allV_lt hl14)
              go_wp2_with fail
              refine (groups_any N l a cap b off gp (allV l) w3 HV.out (HS.out.chg HW3.out.chg (fun x => x)) HA.out HP3.out (by have := HLT.out; omega)).mono ?_
              rintro e w4 ⟨rfl, hc4⟩
              have HW4 := Lib.hid (HW3.out.next hc4); have HP4 := Lib.hid (HP3.out.chg hc4 (fun x => x))
              clear hc4 HW3 HP3
              obtain ⟨want, hwant⟩ : ∃ want, groupsV N l (allV l) = want := ⟨_, rfl⟩
              rw [hwant]
              have HWANT := Lib.hid hwant
              clear hwant
              have hmk := make_ints (l.length + 1) (by omega)
              rw [show ((l.length + 1 : Nat) : Int) = (l.length : Int) + 1 by omega] at hmk
              go_wp2_with fail
              have HB := Lib.hid (made_blk (l.length + 1) w4)
              have HW5 := Lib.hid (HW4.out.next ((Chg.refl (fun _ => False) w4).alloc (.cells (Array.replicate (l.length + 1) (.int .i64 0)) 3)))
              have HP5 := Lib.hid (HP4.out.chg ((Chg.refl (fun _ => False) w4).alloc (.cells (Array.replicate (l.length + 1) (.int .i64 0)) 3)) (fun x => x))
              have hgb : pb + 1 < w4.heap.size := HW4.out.res.lt
              have hgp : gp < w4.heap.size := World.cell_lt HP4.out.1
              generalize w4.alloc (.cells (Array.replicate (l.length + 1) (.int .i64 0)) 3) = w5 at HB HW5 HP5 ⊢
              generalize w4.heap.size = Bg at HB hgb hgp ⊢
              clear HW4 HP4 hmk
              refine (all_any N l a cap gp w5 hl14 HP5.out).mono ?_
              rintro e w6 ⟨rfl, hc6⟩
              have HW6 := Lib.hid (HW5.out.next hc6); have HP6 := Lib.hid (HP5.out.chg hc6 (fun x => x)); have HB6 := Lib.hid (hc6.blk HB.out (fun x => x))
              clear hc6 HW5 HP5 HB
              have hA14 := HLT.out
              have hAM : allV l + 1 = 2 ^ l.length := by unfold allV; have := Nat.two_pow_pos l.length; omega
              have HWD : Hid (∀ S, S < allV l + 1 → holdB N l S = decide (groupsV N l S = want)) := Lib.hid (fun S _ => by unfold holdB; rw [HWANT.out])
              have HSUM := Lib.hid (show dotTo P (Q - P) l.length (cntTo N l (allV l + 1)) (l.length + 1) = (standSum N l P Q : Nat) by
                unfold standSum; rw [hAM]; exact dot_ref N l P (Q - P) hl14 _ (Nat.le_refl _))
              have hA14' : allV l < 16384 := hA14
              have hsz : ∀ s, s < allV l + 1 → sizeV s ≤ l.length := fun s h => sizeV_le (show s < 2 ^ l.length by omega) (by omega)
              have HSZ := Lib.hid hsz
              have HB7 : Hid (Blk w6 Bg 3 ((cntTo N l 0).map (Value.int .i64))) := HB6
              generalize allV l = A at HWD HSUM HSZ hA14' hAM ⊢
              have HAM := Lib.hid hAM
              clear HLT HWANT hA14 hsz HB6 hAM
              go_wp2_with fail
              go_loopg [70] (A + 1) (fun gm sv wr => ∃ s : Nat, s ≤ A + 1 ∧ gm = A + 1 - s ∧ sv = .int .i64 s ∧ Blk wr Bg 3 ((cntTo N l s).map (Value.int .i64)) ∧ SW w pb P Q wr ∧ GardenAt wr gp N (.slice a l.length cap))
              case atStart => exact ⟨0, by omega, by omega, rfl, HB7.out, HW6.out, HP6.out⟩
              case round =>
                clear HB7 HW6 HP6
                obtain ⟨s, hs, rfl, rfl, hb, hsw, hga⟩ := hrel
                have HB := Lib.hid hb; have HW := Lib.hid hsw; have HP := Lib.hid hga
                clear hb hsw hga
                by_cases hlt : s < A + 1
                · have hss := HSZ.out s hlt
                  go_wp2_with fail
                  refine (groups_any N l a cap b off gp s wr HV.out (HS.out.chg HW.out.chg (fun x => x)) HA.out HP.out (by omega)).mono ?_
                  rintro e w7 ⟨rfl, hc7⟩
                  have HW7 := Lib.hid (HW.out.next hc7); have HP7 := Lib.hid (HP.out.chg hc7 (fun x => x)); have HB7 := Lib.hid (hc7.blk HB.out (fun x => x))
                  clear hc7 HW HP HB
                  have HHB := Lib.hid (HWD.out s hlt)
                  obtain ⟨gs, hgs⟩ : ∃ gs, groupsV N l s = gs := ⟨_, rfl⟩
                  rw [hgs] at HHB ⊢
                  clear hgs
                  by_cases hgw : gs = want
                  · have HCN := Lib.hid (show cntTo N l (s + 1) = (cntTo N l s).set (sizeV s) (hr (cntTo N l s) (sizeV s) + 1) by rw [cntTo, if_pos (by rw [HHB.out]; simpa using hgw)])
                    have d1 : (gs == want) = true := by simpa using hgw
                    clear hgw
                    go_wp2_with fail
                    refine (members_any s l.length w7 (by have := HAM.out; omega) (by omega)).mono ?_
                    rintro e w8 ⟨ao8, c8, rfl, hc8⟩
                    have HW8 := Lib.hid (HW7.out.next hc8); have HP8 := Lib.hid (HP7.out.chg hc8 (fun x => x)); have HB8 := Lib.hid (hc8.blk HB7.out (fun x => x))
                    clear hc8 HW7 HP7 HB7
                    have hcl := cntTo_len N l s
                    have hb0 := cntTo_hr N l (sizeV s) s
                    have gk := HB8.out.int_at (i := sizeV s) (by omega)
                    have gf := HB8.out.free (sizeV s)
                    obtain ⟨sz, hsz⟩ : ∃ sz, sizeV s = sz := ⟨_, rfl⟩
                    rw [hsz] at HCN gk gf hss hb0 ⊢
                    obtain ⟨x, hx⟩ : ∃ x, hr (cntTo N l s) sz = x := ⟨_, rfl⟩
                    rw [hx] at HCN gk hb0
                    clear hsz hx hcl
                    obtain ⟨hx0, hx1⟩ := hb0
                    go_wp2_with fail
                    go_roundg (A + 1 - (s + 1))
                    case measure => omega
                    case rel =>
                      exact ⟨s + 1, by omega, rfl, by go_num, by rw [HCN.out]; exact HB8.out.int_set sz (x + 1), HW8.out.set hz (by omega) (by omega) (by omega) _, HP8.out.chg ((Chg.refl (fun k => k = Bg) w8).setCell (.inl rfl) _) (by omega)⟩
                  · have HCN := Lib.hid (show cntTo N l (s + 1) = cntTo N l s by rw [cntTo, if_neg (by rw [HHB.out]; simpa using hgw)])
                    have d1 : (gs == want) = false := by simpa using hgw
                    clear hgw
                    go_wp2_with fail
                    go_roundg (A + 1 - (s + 1))
                    case measure => omega
                    case rel => exact ⟨s + 1, by omega, rfl, by go_num, by rw [HCN.out]; exact HB7.out, HW7.out, HP7.out⟩
                · have hsA : s = A + 1 := by omega
                  subst hsA
                  have hcl := cntTo_len N l (A + 1)
                  have hbd : ∀ i, 0 ≤ hr (cntTo N l (A + 1)) i ∧ hr (cntTo N l (A + 1)) i ≤ 16384 := fun i => by have := cntTo_hr N l i (A + 1); omega
                  have HBD := Lib.hid hbd
                  generalize cntTo N l (A + 1) = G at hcl HBD HB HSUM ⊢
                  have HCL := Lib.hid hcl
                  clear hcl hbd hs hlt HSZ HWD
                  go_wp2_with fail
                  go_loopg [89, 13] (l.length + 1) (fun gm kv nv wr => ∃ (k : Nat) (num : Int), k ≤ l.length + 1 ∧ gm = l.length + 1 - k ∧ kv = .int .i64 k ∧ nv = .int .i64 num ∧ Hid (num = wrap64 (dotTo P (Q - P) l.length G k)) ∧ Blk wr Bg 3 (G.map (Value.int .i64)) ∧ SW w pb P Q wr)
                  case atStart => exact ⟨0, 0, by omega, by omega, rfl, rfl, Lib.hid (by simp [dotTo, wrap64]), HB.out, HW.out⟩
                  case round =>
                    clear HB HW HP
                    obtain ⟨k, num, hk, rfl, rfl, rfl, hnum, hb, hsw⟩ := hrel
                    have HB := Lib.hid hb; have HW := Lib.hid hsw
                    clear hb hsw
                    by_cases hlk : k < l.length + 1
                    · have gk := HB.out.int_at (i := k) (by rw [HCL.out]; exact hlk)
                      have HNX := Lib.hid (show dotTo P (Q - P) l.length G (k + 1) = dotTo P (Q - P) l.length G k + hr G k * (wgt P (Q - P) l.length k : Nat) from rfl)
                      have hb := HBD.out k
                      obtain ⟨x, hx⟩ : ∃ x, hr G k = x := ⟨_, rfl⟩
                      rw [hx] at gk HNX hb
                      clear hx
                      obtain ⟨hx0, hx1⟩ := hb
                      go_wp2_with fail
                      clear gk
                      have c0 := HW.out.box.cell_some (i := 0) rfl; have c1 := HW.out.box.cell_some (i := 1) rfl
                      have s1 : IntKind.i64.wrap ((Q : Int) - (P : Int)) = (Q : Int) - (P : Int) := IntWalk.i64_in _ (by omega)
                      have s2 : IntKind.i64.wrap ((l.length : Int) - (k : Int)) = (l.length : Int) - (k : Int) := IntWalk.i64_in _ (by omega)

                      go_quiet ((go_at_call 24; exact Calls.quiet_of_same (power_int _ _ _ (by omega) (by omega))))
                      clear s1 s2 c0 c1
                      go_wp2_with fail
                      have HB2 := Lib.hid (HB.out.drewN nq); have HW2 := Lib.hid (HW.out.next ((Chg.refl (fun _ => False) wr).drewN nq))
                      go_roundg (l.length + 1 - (k + 1))
                      case measure => omega
                      case rel =>
                        refine ⟨k + 1, _, by omega, rfl, by go_num, rfl, Lib.hid ?_, HB2.out, HW2.out⟩
                        rw [HNX.out, hnum.out]
                        exact wrap_term _ _ hPQ _ _
                    · have hkl : k = l.length + 1 := by omega
                      subst hkl
                      have hsl := standSum_lt N l hl14 hQ8 hPQ
                      have hnn : num = ((standSum N l P Q : Nat) : Int) := by rw [hnum.out, HSUM.out]; exact wrap64_nat _ hsl
                      have HBP := Lib.hid (wrap_pow hQ8 hl14)
                      have hpq := Nat.le_trans (Nat.pow_le_pow_left hQ8 l.length) (pow8_le hl14)
                      have hpp := Nat.pow_pos (n := l.length) (show 0 < Q by omega)
                      subst hnn
                      generalize standSum N l P Q = SS at hsl HR ⊢
                      generalize Q ^ l.length = DD at HBP hpq hpp HR
                      clear hnum HSUM HBD HCL
                      have c0 := HW.out.box.cell_some (i := 0) rfl; have c1 := HW.out.box.cell_some (i := 1) rfl
                      go_wp2_with fail
                      refine (power_any Q l.length wr (by omega)).mono ?_
                      rintro e w9 ⟨rfl, rfl⟩
                      rw [HBP.out]
                      go_wp2_with fail
                      refine (gcd_nat SS DD w9 hsl (by omega)).mono ?_
                      rintro e w10 ⟨rfl, z, rfl⟩
                      have HW10 := Lib.hid (HW.out.next (grow_chg w9 z))
                      generalize w9.grow z = w10 at HW10 ⊢
                      clear c0 c1 HB HW
                      have hg := Nat.gcd_pos_of_pos_right SS hpp
                      obtain ⟨g, hgg⟩ : ∃ g, Nat.gcd SS DD = g := ⟨_, rfl⟩
                      rw [hgg] at hg HR ⊢
                      clear hgg
                      have r0 := HW10.out.res.cell_some (i := 0) rfl; have r1 := HW10.out.res.cell_some (i := 1) rfl
                      have f0 := HW10.out.res.free 0; have f1 := HW10.out.res.free 1
                      have t1 : (SS : Int).tdiv (g : Int) = ((SS / g : Nat) : Int) := by rw [Int.tdiv_eq_ediv_of_nonneg (by omega)]; rfl
                      have t2 : (DD : Int).tdiv (g : Int) = ((DD / g : Nat) : Int) := by rw [Int.tdiv_eq_ediv_of_nonneg (by omega)]; rfl
                      have hg0 : ((g : Int) == 0) = false := by rw [beq_eq_false_iff_ne]; omega
                      go_wp2_with fail
                      have HW11 := Lib.hid (HW10.out.next ((Chg.refl (fun _ => False) w10).drew))
                      clear r0 r1 f0 f1 t1 t2 hg0
                      have hgn : ¬ g = 0 := by omega
                      have q1 : IntKind.i64.wrap ((SS : Int) / (g : Int)) = (SS : Int) / (g : Int) := (congrArg _ (by rw [Int.tdiv_eq_ediv_of_nonneg (by omega)])).trans (IntWalk.i64_quo SS g (by omega))
                      have q2 : IntKind.i64.wrap ((DD : Int) / (g : Int)) = (DD : Int) / (g : Int) := (congrArg _ (by rw [Int.tdiv_eq_ediv_of_nonneg (by omega)])).trans (IntWalk.i64_quo DD g (by omega))
                      go_still_tail 7, (by kernel_rfl)
                      change wpList _ _ _ _ _ w10.drew
                      generalize w10.drew = w11 at HW11 ⊢
                      have r0 := HW11.out.res.cell_some (i := 0) rfl; have r1 := HW11.out.res.cell_some (i := 1) rfl
                      have f0 := HW11.out.res.free 0; have f1 := HW11.out.res.free 1
                      go_wp2_with fail
                      obtain ⟨hF, hcF⟩ := HW11.out.fin hz ((SS : Int) / (g : Int)) ((DD : Int) / (g : Int))
                      generalize (w11.setCell ⟨pb + 1, 0, none⟩ (.int .i64 ((SS : Int) / (g : Int)))).setCell ⟨pb + 1, 1, none⟩ (.int .i64 ((DD : Int) / (g : Int))) = WF at hF hcF ⊢
                      have g0 := hF.cell_some (i := 0) rfl; have g1 := hF.cell_some (i := 1) rfl
                      refine bodyPost_ret (v := .tuple #[.agg #[.int .i64 ((SS : Int) / (g : Int)), .int .i64 ((DD : Int) / (g : Int))], .int .i64 0]) (by simp [results, Try.f12, go_sem, g0, g1]) rfl ?_
                      exact ⟨by rw [HR.out]; rfl, hcF⟩
            · have d5 : (((Nat.gcd P Q : Nat) : Int) != 1) = true := by rw [bne_iff_ne]; omega
              have HR := Lib.hid (standsE_arg (p := P) (q := Q) H0.out (fun h => by unfold partOk at h; simp at h; omega))
              have HW1 := HW2
              generalize w2 = w1 at HW1 ⊢
              clear k5 HP2 HW2
              as_aux_lemma =>
                have r0 := HW1.out.res.cell_some (i := 0) rfl; have r1 := HW1.out.res.cell_some (i := 1) rfl
                have f0 := HW1.out.res.free 0; have f1 := HW1.out.res.free 1
                go_wp2_with fail
                obtain ⟨hF, hcF⟩ := HW1.out.fin hz 0 0
                generalize (w1.setCell ⟨pb + 1, 0, none⟩ (.int .i64 0)).setCell ⟨pb + 1, 1, none⟩ (.int .i64 0) = WF at hF hcF ⊢
                have g0 := hF.cell_some (i := 0) rfl; have g1 := hF.cell_some (i := 1) rfl
                refine bodyPost_ret (v := .tuple #[.agg #[.int .i64 0, .int .i64 0], .int .i64 (2)]) (by simp [results, Try.f12, go_sem, g0, g1]) rfl ?_
                exact ⟨by rw [HR.out], hcF⟩
end Go.Proofs.Ytmmpdfcnenljhaa
