/- The product of two matrices, walked. Its conditions are its premises. -/
import Derived.Test.YtilacamhjibneaaDoorV21
set_option linter.unusedVariables false
namespace Go.Proofs.YtilacamhjibneaaDoor
open Go.RowKit

theorem plusI_any (x y : Int) (w : World) : Calls Tryd.prog 53 #[.int .i64 x, .int .i64 y] w fun e w' => e = .returned (.int .i64 (wrap64 (x + y))) ∧ w' = w := by
  go_enter Tryd.func53, Tryd.ntmps53
  go_wp2_with fail
  go_ret
  exact ⟨rfl, rfl⟩
theorem timesI_any (x y : Int) (w : World) : Calls Tryd.prog 54 #[.int .i64 x, .int .i64 y] w fun e w' => e = .returned (.int .i64 (wrap64 (x * y))) ∧ w' = w := by
  go_enter Tryd.func54, Tryd.ntmps54
  go_wp2_with fail
  go_ret
  exact ⟨rfl, rfl⟩

def prE (A B : List (List Int)) (i j : Nat) : Nat → Int
  | 0 => wrap64 (ent A i 0 * ent B 0 j)
  | k + 1 => wrap64 (prE A B i j k + wrap64 (ent A i (k + 1) * ent B (k + 1) j))
def prR (A B : List (List Int)) (n i : Nat) (m : Nat) : List Int := (List.range m).map fun j => prE A B i j (n - 1)
def prM (A B : List (List Int)) (n m : Nat) : List (List Int) := (List.range m).map fun i => prR A B n i n
theorem prR_len (A B : List (List Int)) (n i m : Nat) : (prR A B n i m).length = m := by simp [prR]
theorem prR_next (A B : List (List Int)) (n i m : Nat) : prR A B n i (m + 1) = prR A B n i m ++ [prE A B i m (n - 1)] := by simp [prR, List.range_succ]
theorem prM_next (A B : List (List Int)) (n m : Nat) : prM A B n (m + 1) = prM A B n m ++ [prR A B n m n] := by simp [prM, List.range_succ]

/-- The row that is being made. -/
structure PR (w0 w : World) (cb n : Nat) (G : List (Nat × Nat)) (v : Value) (l : List Int) : Prop where
  outer : Blk w cb 29 ((outG n n G).set G.length v)
  own : w.ownsRow w0.heap.size 3 1 v l.length (ivL l)
  chg : Chg (fun k => k = cb) w0 w
theorem PR.kept {w0 w w' : World} {cb n : Nat} {G : List (Nat × Nat)} {v : Value} {l : List Int} (h : PR w0 w cb n G v l) (hc : Chg (fun _ => False) w w') : PR w0 w' cb n G v l :=
  ⟨hc.blk h.outer (fun x => x), owns_chg h.own hc, h.chg.trans hc (fun _ x => x.elim)⟩
theorem PR.at_ {w0 w : World} {cb n : Nat} {G : List (Nat × Nat)} {v : Value} {l : List Int} (h : PR w0 w cb n G v l) (hn : G.length < n) : w.cell? ⟨cb, G.length, none⟩ = some v := by
  refine h.outer.cell_some ?_
  rw [List.getElem?_set_self]
  unfold outG
  simp
  omega
theorem PR.push {w0 w w2 : World} {cb n : Nat} {G : List (Nat × Nat)} {v v' : Value} {l : List Int} {x : Int} (h : PR w0 w cb n G v l) (hcb : cb < w0.heap.size) (ho : w2.ownsRow w0.heap.size 3 1 v' (l.length + 1) (ivL l ++ [.int .i64 x])) (hg : w.grownBy w2 v.ownBlock) : PR w0 (w2.setCell ⟨cb, G.length, none⟩ v') cb n G v' (l ++ [x]) := by
  have hne : ∀ k, v.ownBlock = some k → w0.heap.size ≤ k := fun k hk => (h.own.lt _ hk).1
  have hc := Chg.of_grownRow hg
  have hc2 : Chg (fun k => k = cb) w0 w2 := h.chg.trans hc (fun k hk => .inr (hne k hk.symm))
  have hb := (hc.blk h.outer (fun e => by have := hne cb e.symm; omega)).set G.length v'
  rw [List.set_set] at hb
  refine ⟨hb, ?_, hc2.setCell (a := ⟨cb, G.length, none⟩) (.inl rfl) _⟩
  have hs : ivL (l ++ [x]) = ivL l ++ [.int .i64 x] := by simp [ivL]
  rw [hs, List.length_append, List.length_singleton]
  rcases ho with ⟨hl, h | ⟨g, c, cur, hv, hb, hg, hle, hcs, hsz, htk⟩⟩
  · exact ⟨hl, .inl h⟩
  · exact ⟨hl, .inr ⟨g, c, cur, hv, hb, by rw [RowKit.Below.heap_setCell _ _ _ _ (by show g ≠ cb; omega)]; exact hg, hle, hcs, hsz, htk⟩⟩
theorem PR.after {w0 w w2 : World} {cb n : Nat} {G : List (Nat × Nat)} {v : Value} {l : List Int} (h : PR w0 w cb n G v l) (hn : G.length < n) (hcb : cb < w0.heap.size) (hg : w.grownBy w2 v.ownBlock) : w2.cell? ⟨cb, G.length, none⟩ = some v ∧ ∀ j, w2.frozen? ⟨cb, j, none⟩ = false := by
  have hne : ∀ k, v.ownBlock = some k → w0.heap.size ≤ k := fun k hk => (h.own.lt _ hk).1
  have hc := Chg.of_grownRow hg
  have hs : ¬ some cb = v.ownBlock := fun e => by have := hne cb e.symm; omega
  exact ⟨hc.cell_some (h.at_ hn) hs, fun j => (hc.blk h.outer hs).free j⟩
theorem PR.done {w00 w0 w : World} {cb n : Nat} {A : List (List Int)} {G : List (Nat × Nat)} {v : Value} {l : List Int} (h : PR w0 w cb n G v l) (hM : IM w00 w0 cb n n A G) (hlt : G.length < n) (hl : l.length = n) : ∃ g c, IM w00 w cb n n (A ++ [l]) (G ++ [(g, c)]) := by
  have ho := h.own
  rw [hl] at ho
  obtain ⟨g, c, rfl, hg, hq⟩ := QueB.of_owns ho (by omega)
  refine ⟨g, c, hM.next hlt h.chg ?_ hq hg⟩
  have := h.outer
  rw [show (Value.slice (some ⟨g, 0, none⟩) n c) = gv n (g, c) from rfl, outG_set _ hlt] at this
  exact this
theorem PR.form {w0 w : World} {cb n : Nat} {G : List (Nat × Nat)} {v : Value} {l : List Int} (h : PR w0 w cb n G v l) : ∃ ao c, v = .slice ao l.length c := by
  obtain ⟨ao, c, hv, _⟩ := owns_form h.own
  exact ⟨ao, c, hv⟩

set_option maxRecDepth 100000 in
set_option maxHeartbeats 1000000 in
theorem product_any (A B : List (List Int)) (n : Nat) (hn1 : 1 ≤ n) (hn6 : n ≤ 6) (ab acap bb bcap : Nat) (w : World) (ha : MatI w ab n A) (hb : MatI w bb n B) :
    Calls Tryd.prog 55 #[.slice (some ⟨ab, 0, none⟩) n acap, .slice (some ⟨bb, 0, none⟩) n bcap, .func (.func 53) #[] #[], .func (.func 54) #[] #[]] w fun e w' => (∃ cb G, e = .returned (.slice (some ⟨cb, 0, none⟩) n n) ∧ IM w w' cb n n (prM A B n n) G ∧ G.length = n) ∧ Chg (fun _ => False) w w' := by
  have hmk := make_mat n (by omega)
  have HI3 : Hid (∃ i0, Tryd.prog.info? 3 = some i0 ∧ i0.zero = some (.int .i64 0) ∧ i0.size = 1 ∧ i0.bytes = 8) := Lib.hid (by
    obtain ⟨i0, h0, h1, h2, h3⟩ := info_parts info3
    exact ⟨i0, h0, h1, h2, h3⟩)
  have HA := Lib.hid ha; have HB := Lib.hid hb
  have HP := Lib.hid plusI_any; have HT := Lib.hid timesI_any
  have HM0 := Lib.hid (made_mat n n w)
  obtain ⟨cb, hcb⟩ : ∃ cb, w.heap.size = cb := ⟨_, rfl⟩
  rw [hcb] at HM0
  have HCB := Lib.hid hcb
  clear ha hb
  go_enter Tryd.func55, Tryd.ntmps55
  go_wp2_with fail
  clear hcb hmk
  generalize w.alloc (.cells (Array.replicate n (.slice none 0 0)) 29) = W0 at HM0 ⊢
  go_loopg [20] n (fun gm iv wr => ∃ (i : Nat) (G : List (Nat × Nat)), i ≤ n ∧ gm = n - i ∧ iv = .int .i64 i ∧ G.length = i ∧ IM w wr cb n n (prM A B n i) G)
  case atStart => exact ⟨0, [], by omega, by omega, rfl, rfl, HM0.out⟩
  case round =>
    clear HM0
    obtain ⟨i, G, hi, rfl, rfl, hG, hM⟩ := hrel
    have HG := Lib.hid hG; have HM := Lib.hid hM
    clear hG hM
    by_cases hlt : i < n
    · have d0 : decide (i < n) = true := by simpa using hlt
      obtain ⟨ga, ca, a0, a2⟩ := HA.out i hlt
      have a1 := HM.out.chg.cell_some a0 (fun x => x)
      have HA2 := Lib.hid a2
      clear a2 a0
      have HPR0 : Hid (PR wr wr cb n G nilS []) := Lib.hid ⟨by
        have h := HM.out.outer
        have h2 : (outG n n G).set G.length nilS = outG n n G := by
          have hx := outG_next (n := n) (N := n) (G := G) (by rw [HG.out]; exact hlt)
          apply List.ext_getElem?
          intro j
          rw [List.getElem?_set]
          by_cases hj : G.length = j
          · subst hj
            rw [if_pos rfl, if_pos (by rw [List.getElem?_eq_some_iff] at hx; exact hx.1), hx]
          · rw [if_neg hj]
        rw [h2]; exact h, World.ownsRow_nil wr _ 3 1, Chg.refl _ _⟩
      go_wp2_with fail
      clear a1
      obtain ⟨wo, hwo⟩ : ∃ wo : World, wo = wr := ⟨_, rfl⟩
      rw [← hwo] at HM HPR0 ⊢
      clear hwo
      go_loopg [27] n (fun gm jv wr => ∃ (j : Nat) (v : Value), j ≤ n ∧ gm = n - j ∧ jv = .int .i64 j ∧ PR wo wr cb n G v (prR A B n i j))
      case atStart => exact ⟨0, nilS, by omega, by omega, rfl, HPR0.out⟩
      case round =>
        clear HPR0
        obtain ⟨j, v, hj, rfl, rfl, hpr⟩ := hrel
        have HPR := Lib.hid hpr
        clear hpr
        by_cases hjl : j < n
        · have d1 : decide (j < n) = true := by simpa using hjl
          have HWC : Hid (Chg (fun _ => False) w wr) := Lib.hid (HM.out.chg.trans HPR.out.chg (fun k hk => .inr (by rw [hk]; exact HM.out.ocb)))
          have HAW : Hid (∀ k, k < n → wr.cell? ⟨ga, k, none⟩ = some (.int .i64 (ent A i k))) := Lib.hid (fun k hk => HWC.out.cell_some (HA2.out k hk) (fun x => x))
          have HBW := Lib.hid (HB.out.chg HWC.out)
          have e1 := HAW.out 0 (by omega)
          obtain ⟨gb, cb0, b1, b2⟩ := HBW.out 0 (by omega)
          have b3 := b2 j hjl
          clear b2
          have hn0 : (0 : Int) < (n : Int) := by omega
          go_wp2_with fail
          go_quiet ((refine Calls.quiet_of_same (HT.out _ _ _)))
          clear e1 b1 b3
          go_wp2_with fail
          obtain ⟨wj, hwj⟩ : ∃ wj : World, wj = wr := ⟨_, rfl⟩
          rw [← hwj] at HPR HWC HAW HBW ⊢
          clear hwj
          go_loopg [14, 13] (n - 1) (fun gm kv xv wr => ∃ k q : Nat, k + 1 ≤ n ∧ gm = n - (k + 1) ∧ kv = .int .i64 ((k + 1 : Nat) : Int) ∧ xv = .int .i64 (prE A B i j k) ∧ wr = wj.drewN q)
          case atStart => exact ⟨0, nq, by omega, by omega, rfl, rfl, rfl⟩
          case round =>
            obtain ⟨k, q, hk, rfl, rfl, rfl, rfl⟩ := hrel
            obtain ⟨K, hK⟩ : ∃ K, k + 1 = K := ⟨_, rfl⟩
            rw [hK] at hk ⊢
            have HKK := Lib.hid hK
            clear hK
            by_cases hkn : K < n
            · have d2 : decide (K < n) = true := by simpa using hkn
              have e1 := HAW.out K hkn
              obtain ⟨gb2, cb2, b1, b2⟩ := HBW.out K hkn
              have b3 := b2 j hjl
              clear b2
              have HXS := Lib.hid (show prE A B i j (k + 1) = wrap64 (prE A B i j k + wrap64 (ent A i (k + 1) * ent B (k + 1) j)) from rfl)
              rw [HKK.out] at HXS
              obtain ⟨x, hx⟩ : ∃ x, prE A B i j k = x := ⟨_, rfl⟩
              rw [hx] at HXS ⊢
              clear hx
              go_wp2_with fail
              go_quiet ((first | (refine (HT.out _ _ _).mono ?_; rintro e w' ⟨rfl, rfl⟩; exact ⟨rfl, _, rfl⟩) | (refine (HP.out _ _ _).mono ?_; rintro e w' ⟨rfl, rfl⟩; exact ⟨rfl, _, rfl⟩)))
              go_wp2_with fail
              go_roundg (n - (K + 1))
              case measure => have := HKK.out; omega
              case rel => exact ⟨k + 1, q + nq, by have := HKK.out; omega, by have := HKK.out; omega, by have := HKK.out; go_num, by rw [HKK.out, HXS.out], by simp⟩
            · have HKN := Lib.hid (show k = n - 1 by have := HKK.out; omega)
              have d2 : decide (K < n) = false := by simpa using hkn
              rw [HKN.out]
              obtain ⟨x, hx⟩ : ∃ x, prE A B i j (n - 1) = x := ⟨_, rfl⟩
              have HX := Lib.hid hx
              rw [hx]
              clear hx
              go_upto_region 13 with (fail)
              have HPQ := Lib.hid (HPR.out.kept ((Chg.refl (fun _ => False) wj).drewN q))
              generalize wj.drewN q = W3 at HPQ ⊢
              have c1 := HPQ.out.at_ (by rw [HG.out]; exact hlt)
              rw [HG.out] at c1
              have hcbo : cb < wo.heap.size := HM.out.outer.lt
              have HCO := Lib.hid hcbo
              have HX3 := Lib.hid (Blk.new W3 #[.int .i64 x] 3)
              have HBS := Lib.hid (show wo.heap.size ≤ (W3.alloc (.cells #[.int .i64 x] 3)).heap.size from Nat.le_trans HPQ.out.chg.size (by show W3.heap.size ≤ (W3.heap.push _).size; simp))
              have HPA := Lib.hid (HPQ.out.kept ((Chg.refl (fun _ => False) W3).alloc (.cells #[.int .i64 x] 3)))
              have HLJ := Lib.hid (prR_len A B n i j)
              obtain ⟨g3, hg3⟩ : ∃ g3, W3.heap.size = g3 := ⟨_, rfl⟩
              rw [hg3] at HX3
              clear hcbo
              go_wp2_with (at_builtin; refine wpList_append_own _ rfl (.tmp 68) (.tmp 70) 29 rfl wo.heap.size 3 HI3.out.choose _ 1 8 Tryd.underlying29 HI3.out.choose_spec.1 HI3.out.choose_spec.2.1 HI3.out.choose_spec.2.2.1 HI3.out.choose_spec.2.2.2 rfl (by decide) v _ _ (by simp [Act.eval]) HPA.out.own ⟨g3, 0, none⟩ 1 1 [.int .i64 x] (by simp [Act.eval]) rfl (fun j v hj => by rw [add_plain, Nat.zero_add]; exact HX3.out.cell_some hj) (by intro v hv; simp at hv; subst hv; rfl) ?l1 ?l2 HBS.out ?_)
              case l1 => rw [HLJ.out]; unfold maxLen; omega
              case l2 => rw [HLJ.out]; omega
              intro v' w2 hown' hgrow _
              have hpush := HPA.out.push HCO.out hown' hgrow
              have haft := HPA.out.after (by rw [HG.out]; exact hlt) HCO.out hgrow
              rw [HG.out] at hpush haft
              rw [HLJ.out] at hown'
              obtain ⟨g', c', rfl, _, _⟩ := QueB.of_owns hown' (by omega)
              have HPU := Lib.hid hpush
              have c2 := haft.1
              have f2 := haft.2 i
              clear hpush haft hown' hgrow c1 hg3
              go_wp2_with fail
              go_roundg (n - (j + 1))
              case measure => omega
              case rel => exact ⟨j + 1, _, by omega, rfl, by go_num, by rw [prR_next, HX.out]; exact HPU.out⟩
        · obtain rfl : j = n := by omega
          have HMN := Lib.hid (HPR.out.done HM.out (by rw [HG.out]; exact hlt) (prR_len A B j i j))
          have HPN := Lib.hid (prM_next A B j i)
          go_wp2_with fail
          obtain ⟨g, c, hnext⟩ := HMN.out
          go_roundg (j - (i + 1))
          case measure => omega
          case rel => exact ⟨i + 1, G ++ [(g, c)], by omega, rfl, by go_num, by rw [List.length_append, HG.out]; rfl, by rw [HPN.out]; exact hnext⟩
    · obtain rfl : i = n := by omega
      go_wp2_with fail
      go_ret
      exact ⟨⟨cb, G, rfl, HM.out, HG.out⟩, HM.out.chg⟩
end Go.Proofs.YtilacamhjibneaaDoor
