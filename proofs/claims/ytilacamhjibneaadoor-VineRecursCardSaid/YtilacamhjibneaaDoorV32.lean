/- The reference's table, walked. Its conditions are its premises. -/
import Derived.Test.YtilacamhjibneaaDoorV31
set_option linter.unusedVariables false
namespace Go.Proofs.YtilacamhjibneaaDoor
open Go.RowKit

/-- The row of which the first p parts are there. -/
def prF (R : List Nat) (n p : Nat) : List Nat := R.take p ++ List.replicate (n - p) 0
theorem prF_len {R : List Nat} {n p : Nat} (hR : R.length = n) (hp : p ≤ n) : (prF R n p).length = n := by
  unfold prF
  rw [List.length_append, List.length_take, List.length_replicate]
  omega
theorem prF_done {R : List Nat} {n : Nat} (hR : R.length = n) : prF R n n = R := by
  unfold prF
  rw [Nat.sub_self, List.take_of_length_le (by omega)]
  simp
theorem prF_next {R : List Nat} {n p : Nat} (hR : R.length = n) (hp : p < n) : (prF R n p).set p (at0 R p) = prF R n (p + 1) := by
  unfold prF
  have h1 : (R.take p).length = p := by rw [List.length_take]; omega
  rw [List.set_append_right _ _ (by omega), h1, Nat.sub_self]
  obtain ⟨m, hm⟩ : ∃ m, n - p = m + 1 := ⟨n - p - 1, by omega⟩
  rw [hm, List.replicate_succ, List.set_cons_zero, show n - (p + 1) = m by omega, List.take_succ_eq_append_getElem (by omega), at0_lt_of (by omega), List.append_assoc]
  rfl
theorem prF_set_zero {R : List Nat} {n p : Nat} (hR : R.length = n) (hp : p < n) : (prF R n p).set p 0 = prF R n p := by
  unfold prF
  have h1 : (R.take p).length = p := by rw [List.length_take]; omega
  rw [List.set_append_right _ _ (by omega), h1, Nat.sub_self]
  obtain ⟨m, hm⟩ : ∃ m, n - p = m + 1 := ⟨n - p - 1, by omega⟩
  rw [hm, List.replicate_succ, List.set_cons_zero]

/-- The table so far: the rows of the blocks G. -/
structure RT (w0 w : World) (V : List (List Nat)) (v : Value) (G : List Nat) : Prop where
  own : w.ownsRow w0.heap.size 90 1 v G.length (G.map (rv V.length))
  rows : ∀ y (h : y < G.length), RowAt w G[y] (tab V y) ∧ v.ownBlock ≠ some G[y] ∧ G[y] < w.heap.size
  chg : Chg (fun _ => False) w0 w
theorem RT.kept {w0 w w' : World} {V : List (List Nat)} {v : Value} {G : List Nat} (h : RT w0 w V v G) (hc : Chg (fun _ => False) w w') : RT w0 w' V v G :=
  ⟨owns_chg h.own hc, fun y hy => ⟨(h.rows y hy).1.chg hc (fun x => x), (h.rows y hy).2.1, Nat.lt_of_lt_of_le (h.rows y hy).2.2 hc.size⟩, h.chg.trans hc (fun _ x => x.elim)⟩
/-- A row is put at the end. -/
theorem RT.push {w0 w w2 : World} {V : List (List Nat)} {v v' : Value} {G : List Nat} {rb : Nat} (h : RT w0 w V v G) (hr : RowAt w rb (tab V G.length)) (hrb : rb < w.heap.size) (hne : v.ownBlock ≠ some rb)
    (ho : w2.ownsRow w0.heap.size 90 1 v' (G.length + 1) (G.map (rv V.length) ++ [rv V.length rb])) (hg : w.grownBy w2 v.ownBlock) (htwo : v'.ownBlock = v.ownBlock ∨ ∃ g, w.heap.size ≤ g ∧ v'.ownBlock = some g) : RT w0 w2 V v' (G ++ [rb]) := by
  have hc := Chg.of_grownRow hg
  have hown : ∀ k, v.ownBlock = some k → w0.heap.size ≤ k := fun k hk => (h.own.lt _ hk).1
  refine ⟨?_, fun y hy => ?_, h.chg.trans hc (fun k hk => .inr (hown k hk.symm))⟩
  · rw [List.length_append, List.map_append]
    exact ho
  · have key : ∀ g, g < w.heap.size → v.ownBlock ≠ some g → v'.ownBlock ≠ some g := fun g hg1 hg2 e => by
      rcases htwo with h1 | ⟨g', h1, h2⟩
      · rw [h1] at e; exact hg2 e
      · rw [h2] at e; cases e; omega
    by_cases hyl : y < G.length
    · rw [List.getElem_append_left hyl]
      obtain ⟨h1, h2, h3⟩ := h.rows y hyl
      exact ⟨h1.chg hc (fun e => h2 e.symm), key _ h3 h2, Nat.lt_of_lt_of_le h3 hc.size⟩
    · obtain rfl : y = G.length := by simp at hy; omega
      have he : (G ++ [rb])[G.length]'hy = rb := by simp
      rw [he]
      exact ⟨hr.chg hc (fun e => hne e.symm), key _ hrb hne, Nat.lt_of_lt_of_le hrb hc.size⟩
theorem RT.tab {w0 w : World} {V : List (List Nat)} {v : Value} {G : List Nat} (h : RT w0 w V v G) (h0 : 0 < G.length) : ∃ g c, v = .slice (some ⟨g, 0, none⟩) G.length c ∧ TabAt w g 0 V (G.length - 1) := by
  obtain ⟨g, c, rfl, _, hq⟩ := QueB.of_owns h.own h0
  refine ⟨g, c, rfl, fun y hy => ⟨G[y], V.length, ?_, (h.rows y (by omega)).1⟩⟩
  refine hq.at_ y _ ?_
  rw [List.getElem?_map, List.getElem?_eq_getElem (by omega)]
  rfl

set_option maxRecDepth 100000 in
set_option maxHeartbeats 1000000 in
theorem table_any (V : List (List Nat)) (hV : WF V) (Y : Nat) (hY : Y ≤ 1000) (b off cap : Nat) (w : World) (hv : VAt w b off V) :
    Calls Tryd.prog 73 #[.slice (some ⟨b, off, none⟩) V.length cap, .int .i64 (Y : Int)] w fun e w' => (∃ g c, e = .returned (.slice (some ⟨g, 0, none⟩) (Y + 1) c) ∧ TabAt w' g 0 V Y) ∧ Chg (fun _ => False) w w' := by
  have hn6 := hV.le
  have hmk := make_row V.length (by omega)
  have HV := Lib.hid hv; have HWF := Lib.hid hV
  have HI90 : Hid (∃ i0, Tryd.prog.info? 90 = some i0 ∧ i0.zero = some (.slice none 0 0) ∧ i0.size = 1 ∧ i0.bytes = 24) := Lib.hid (by
    obtain ⟨i0, h0, h1, h2, h3⟩ := info_parts info90
    exact ⟨i0, h0, h1, h2, h3⟩)
  clear hv hV
  go_enter Tryd.func73, Tryd.ntmps73
  go_wp2_with fail
  go_loopg [6, 5] (Y + 1) (fun gm yv ov wr => ∃ (y : Nat) (G : List Nat), y ≤ Y + 1 ∧ gm = Y + 1 - y ∧ yv = .int .i64 y ∧ G.length = y ∧ RT w wr V ov G)
  case atStart => exact ⟨0, [], by omega, by omega, rfl, rfl, World.ownsRow_nil w _ 90 1, fun y hy => by simp at hy, Chg.refl _ _⟩
  case round =>
    obtain ⟨y, G, hy, rfl, rfl, hG, hrt⟩ := hrel
    have HG := Lib.hid hG; have HRT := Lib.hid hrt
    clear hG hrt
    generalize u5 = ov at HRT ⊢
    by_cases hyY : y ≤ Y
    · have d0 : decide ((y : Int) ≤ (Y : Int)) = true := by simp; omega
      obtain ⟨rb, hrb⟩ : ∃ rb, wr.heap.size = rb := ⟨_, rfl⟩
      have HRB := Lib.hid hrb
      have HB0 := made_row V.length wr
      rw [hrb] at HB0
      have HBK0 : Hid (Blk (wr.alloc (.cells (Array.replicate V.length (.int .u64 0)) 88)) rb 88 (uv (prF (tab V y) V.length 0))) := Lib.hid (by unfold prF; simpa using HB0)
      have HC0 := Lib.hid ((Chg.refl (fun _ => False) wr).alloc (.cells (Array.replicate V.length (.int .u64 0)) 88))
      go_wp2_with fail
      clear hrb HB0
      obtain ⟨wo, hwo⟩ : ∃ wo : World, wo = wr := ⟨_, rfl⟩
      rw [← hwo] at HRT HRB HC0 HBK0 ⊢
      clear hwo
      generalize wo.alloc (.cells (Array.replicate V.length (.int .u64 0)) 88) = W0 at HC0 HBK0 ⊢
      go_loopg [8] V.length (fun gm pv wr => ∃ p : Nat, p ≤ V.length ∧ gm = V.length - p ∧ pv = .int .i64 p ∧ Blk wr rb 88 (uv (prF (tab V y) V.length p)) ∧ Chg (fun _ => False) wo wr)
      case atStart => exact ⟨0, by omega, by omega, rfl, HBK0.out, HC0.out⟩
      case round =>
        clear HBK0 HC0
        obtain ⟨p, hp, rfl, rfl, hbk, hc⟩ := hrel
        have HBK := Lib.hid hbk; have HC := Lib.hid hc
        clear hbk hc
        have HTL := Lib.hid (tab_len V y)
        by_cases hpl : p < V.length
        · have d1 : decide (p < V.length) = true := by simpa using hpl
          have HNX := Lib.hid (prF_next HTL.out hpl)
          by_cases hy0 : y = 0
          · subst hy0
            rw [tab_zero hpl] at HNX
            have k1 := HBK.out.cell_some (uv_at (i := p) (by rw [prF_len HTL.out (by omega)]; exact hpl))
            have f1 := HBK.out.free p
            go_wp2_with fail
            go_roundg (V.length - (p + 1))
            case measure => omega
            case rel => exact ⟨p + 1, by omega, rfl, by go_num, by rw [← HNX.out, uv_set]; exact HBK.out.set p _, HC.out.setCell (.inr (by rw [HRB.out]; exact Nat.le_refl _)) _⟩
          · have hyb : ((y : Int) == 0) = false := by simp; omega
            obtain ⟨z, hz⟩ : ∃ z, y = z + 1 := ⟨y - 1, by omega⟩
            have HZ := Lib.hid hz
            have hz1 : (y : Int) - 1 = (z : Int) := by omega
            have hzy : z < y := by omega
            obtain ⟨g, gc, hov, htb⟩ := HRT.out.tab (by rw [HG.out]; omega)
            rw [HG.out] at hov htb
            have HTB := Lib.hid htb
            subst hov
            have c0 := (HV.out.chg (HRT.out.chg.trans HC.out (fun _ x => x.elim)) (fun x => x)) p hpl
            rw [← part_lt hpl] at c0
            have hp8 := (HWF.out.part_le p).1
            have HP := Lib.hid (HWF.out.part_le p).2
            have HTS := Lib.hid (show at0 (tab V y) p = tbP (part V p) (tab V z) (part V p).length by rw [hz]; exact tab_succ hpl)
            rw [HTS.out] at HNX
            obtain ⟨q, hq⟩ : ∃ q, part V p = q := ⟨_, rfl⟩
            rw [hq] at c0 hp8 HP HNX
            have HQP := Lib.hid hq
            clear hz hq htb
            have hsz := str_size q
            have HST : Hid (Blk wr rb 88 (uv ((prF (tab V y) V.length p).set p (tbP q (tab V z) 0)))) := Lib.hid (by rw [show tbP q (tab V z) 0 = 0 from rfl, prF_set_zero HTL.out hpl]; exact HBK.out)
            go_wp2_with fail
            clear c0
            go_loopg [9] q.length (fun gm kv wr => ∃ k : Nat, k ≤ q.length ∧ gm = q.length - k ∧ kv = .int .i64 k ∧ Blk wr rb 88 (uv ((prF (tab V y) V.length p).set p (tbP q (tab V z) k))) ∧ Chg (fun _ => False) wo wr)
            case atStart => exact ⟨0, by omega, by omega, rfl, HST.out, HC.out⟩
            case round =>
              clear HST HC HBK
              obtain ⟨k, hk, rfl, rfl, hbk, hc⟩ := hrel
              have HBK := Lib.hid hbk; have HC := Lib.hid hc
              clear hbk hc
              have c0 := (HV.out.chg (HRT.out.chg.trans HC.out (fun _ x => x.elim)) (fun x => x)) p hpl
              rw [← part_lt hpl, HQP.out] at c0
              by_cases hkl : k < q.length
              · have d3 : decide (k < q.length) = true := by simpa using hkl
                have hcn := HP.out _ (List.getElem_mem hkl)
                have hidx := index_chr hkl (by omega)
                have hu8 := u8_chr q[k] (by omega)
                have HSK : Hid (tbP q (tab V z) (k + 1) = min (tbP q (tab V z) k + at0 (tab V z) q[k]) M63) := Lib.hid (by rw [tbP, at0_lt_of hkl])
                have hlen1 : ((prF (tab V y) V.length p).set p (tbP q (tab V z) k)).length = V.length := by rw [List.length_set]; exact prF_len HTL.out (by omega)
                have k1 := HBK.out.cell_some (uv_at (i := p) (by rw [hlen1]; exact hpl))
                rw [show at0 ((prF (tab V y) V.length p).set p (tbP q (tab V z) k)) p = tbP q (tab V z) k by rw [at0_set _ _ _ _ (by rw [prF_len HTL.out (by omega)]; exact hpl), if_pos rfl]] at k1
                have HL1 := Lib.hid hlen1
                clear hlen1
                obtain ⟨gz, cz, t1, t2⟩ := (HTB.out.chg HC.out) z (by omega)
                rw [Nat.zero_add] at t1
                have t3 := t2 q[k] (by rw [tab_len]; exact hcn)
                clear t2
                have HPL := Lib.hid (rplus_any (tbP q (tab V z) k) (at0 (tab V z) q[k]) (tbP_le _ _ k) (tab_le V z _))
                obtain ⟨d, hd⟩ : ∃ d, q[k] = d := ⟨_, rfl⟩
                rw [hd] at hcn hu8 HSK t3 HPL
                simp only [hd] at hidx
                obtain ⟨D, hD⟩ : ∃ D, 97 + d = D := ⟨_, rfl⟩
                rw [hD] at hu8
                simp only [hD] at hidx
                obtain ⟨x, hx⟩ : ∃ x, at0 (tab V z) d = x := ⟨_, rfl⟩
                obtain ⟨u, hu⟩ : ∃ u, tbP q (tab V z) k = u := ⟨_, rfl⟩
                rw [hx] at t3 HSK HPL
                rw [hu] at HSK HPL k1 HBK
                clear hd hD hx hu
                have hdi : (d : Int) < (V.length : Int) := by omega
                have hpi : (p : Int) < (V.length : Int) := by omega
                have hzi : (z : Int) < (y : Int) := by omega
                have hwz : IntKind.i64.wrap (z : Int) = (z : Int) := IntWalk.i64_in _ (by omega)
                have hwd : IntKind.i64.wrap (d : Int) = (d : Int) := IntWalk.i64_in _ (by omega)
                have f1 := HBK.out.free p
                go_wp2_with fail
                go_still_tail 23, (by kernel_rfl)
                still_call (HPL.out _)
                repeat still_step
                refine wpStill_nil ?_
                change wpList _ _ _ _ _ wr.drew
                have HC1 := Lib.hid HC.out.drew; have HB1 := Lib.hid HBK.out.drew
                clear k1 f1 hidx hu8 t1 t3 c0 hwz hwd
                generalize wr.drew = W1 at HC1 HB1 ⊢
                have k1 := HB1.out.cell_some (uv_at (i := p) (by rw [List.length_set, prF_len HTL.out (by omega)]; exact hpl))
                have f1 := HB1.out.free p
                go_wp2_with fail
                go_roundg (q.length - (k + 1))
                case measure => omega
                case rel =>
                  refine ⟨k + 1, by omega, rfl, by go_num, ?_, HC1.out.setCell (.inr (by rw [HRB.out]; exact Nat.le_refl _)) _⟩
                  rw [HSK.out]
                  have h := HB1.out.set p (.int .u64 ((min (u + x) M63 : Nat) : Int))
                  rw [← uv_set, List.set_set] at h
                  exact h
              · obtain rfl : k = q.length := by omega
                go_wp2_with fail
                go_roundg (V.length - (p + 1))
                case measure => omega
                case rel => exact ⟨p + 1, by omega, rfl, by go_num, by rw [← HNX.out]; exact HBK.out, HC.out⟩
        · obtain rfl : p = V.length := by omega
          rw [prF_done HTL.out] at HBK
          have HRK := Lib.hid (HRT.out.kept HC.out)
          have HXX := Lib.hid (Blk.new wr #[rv V.length rb] 90)
          have HRA := Lib.hid (HRK.out.kept ((Chg.refl (fun _ => False) wr).alloc (.cells #[rv V.length rb] 90)))
          have HRW := Lib.hid ((row_of_blk HBK.out).chg ((Chg.refl (fun _ => False) wr).alloc (.cells #[rv V.length rb] 90)) (fun x => x))
          have hrl := HBK.out.lt
          have HRL := Lib.hid (show rb < (wr.alloc (.cells #[rv V.length rb] 90)).heap.size from Nat.lt_of_lt_of_le hrl ((Chg.refl (fun _ => False) wr).alloc (.cells #[rv V.length rb] 90)).size)
          have HNE := Lib.hid (show ov.ownBlock ≠ some rb from fun e => by
            have := (HRT.out.own.lt rb e).2
            have := HRB.out
            omega)
          have HBS := Lib.hid (show w.heap.size ≤ (wr.alloc (.cells #[rv V.length rb] 90)).heap.size from HRA.out.chg.size)
          have HOW := Lib.hid HRA.out.own
          rw [HG.out] at HOW
          obtain ⟨g3, hg3⟩ : ∃ g3, wr.heap.size = g3 := ⟨_, rfl⟩
          rw [hg3] at HXX
          have HS3 := Lib.hid (show (wr.alloc (.cells #[rv V.length rb] 90)).heap.size = g3 + 1 by show (wr.heap.push _).size = _; rw [Array.size_push, hg3])
          clear hrl
          unfold rv at HXX
          go_wp2_with (at_builtin; refine wpList_append_two rfl (.tmp 61) (.tmp 63) 86 rfl w.heap.size 90 HI90.out.choose _ 1 24 Tryd.underlying86 HI90.out.choose_spec.1 HI90.out.choose_spec.2.1 HI90.out.choose_spec.2.2.1 HI90.out.choose_spec.2.2.2 rfl (by decide) ov y _ (by simp [Act.eval]) HOW.out ⟨g3, 0, none⟩ 1 1 [rv V.length rb] (by simp [Act.eval]) rfl (fun j v hj => by rw [add_plain, Nat.zero_add]; exact HXX.out.cell_some hj) (by intro v hv; simp at hv; subst hv; rfl) (by unfold maxLen; omega) (by omega) HBS.out ?_)
          intro v' w2 hown' hgrow htwo
          have HPU := Lib.hid (HRA.out.push (by rw [HG.out]; exact HRW.out) HRL.out HNE.out (by rw [HG.out]; exact hown') hgrow (by rw [HS3.out]; exact htwo))
          clear hown' hgrow htwo hg3
          go_wp2_with fail
          go_roundg (Y + 1 - (y + 1))
          case measure => omega
          case rel => exact ⟨y + 1, G ++ [rb], by omega, rfl, by go_num, by rw [List.length_append, HG.out]; rfl, HPU.out⟩
    · obtain rfl : y = Y + 1 := by omega
      have d0 : decide (((Y + 1 : Nat) : Int) ≤ (Y : Int)) = false := by simp; omega
      obtain ⟨g, c, hov, htb⟩ := HRT.out.tab (by rw [HG.out]; omega)
      rw [HG.out] at hov htb
      have HTB := Lib.hid htb
      subst hov
      clear htb
      go_wp2_with fail
      go_ret
      exact ⟨⟨g, c, rfl, HTB.out⟩, HRT.out.chg⟩
end Go.Proofs.YtilacamhjibneaaDoor
