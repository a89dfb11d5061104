/- Recurrence, walked. Its conditions are its premises. -/
import Derived.Test.YtilacamhjibneaaDoorV22
set_option linter.unusedVariables false
namespace Go.Proofs.YtilacamhjibneaaDoor
open Go.RowKit

def idR (n i : Nat) : List Int := (List.replicate n 0).set i 1
def idM (n m : Nat) : List (List Int) := (List.range m).map (idR n)
theorem idM_next (n m : Nat) : idM n (m + 1) = idM n m ++ [idR n m] := by simp [idM, List.range_succ]
def trF (B : List (List Int)) : Nat → Int
  | 0 => 0
  | i + 1 => wrap64 (trF B i + ent B i i)
def subF (B : List (List Int)) (c : Int) : Nat → List (List Int)
  | 0 => B
  | i + 1 => (subF B c i).set i ((row (subF B c i) i).set i (wrap64 (ent (subF B c i) i i - c)))
/-- The matrix and the coefficients after k rounds. -/
def recF (n : Nat) (M : List (List Int)) : Nat → List (List Int) × List Int
  | 0 => (idM n n, [])
  | k + 1 =>
    let B := prM M (recF n M k).1 n n
    let c := wrap64 ((trF B n).tdiv ((k + 1 : Nat) : Int))
    (subF B c n, (recF n M k).2 ++ [c])
def recV (V : List (List Nat)) : List Int := (recF V.length (growsM V) V.length).2

theorem owns_chgS {S : Nat → Prop} {w w' : World} {base : Nat} {e : TypeId} {size n : Nat} {v : Value} {xs : List Value} (h : w.ownsRow base e size v n xs) (hc : Chg S w w') (hS : ∀ k, v.ownBlock = some k → ¬ S k) : w'.ownsRow base e size v n xs := by
  rcases h with ⟨hl, h | ⟨g, c, cur, hv, hb, hg, hle, hcs, hsz, htk⟩⟩
  · exact ⟨hl, .inl h⟩
  · exact ⟨hl, .inr ⟨g, c, cur, hv, hb, (hc.block g (Array.getElem?_eq_some_iff.1 hg).1 (hS g (by subst hv; rfl))).trans hg, hle, hcs, hsz, htk⟩⟩

/-- A matrix of which no block lies under the base. -/
structure IMB (base : Nat) (w : World) (cb n N : Nat) (A : List (List Int)) (G : List (Nat × Nat)) : Prop where
  len : A.length = G.length
  outer : Blk w cb 29 (outG n N G)
  rows : ∀ k (h : k < G.length), QueB w 1 G[k].1 0 G[k].2 n (ivL (row A k))
  ne : ∀ k (h : k < G.length), G[k].1 ≠ cb
  inj : ∀ j k (hj : j < G.length) (hk : k < G.length), G[j].1 = G[k].1 → j = k
  ocb : base ≤ cb
  og : ∀ k (h : k < G.length), base ≤ G[k].1
namespace IMB
variable {base : Nat} {w w' : World} {cb n N : Nat} {A : List (List Int)} {G : List (Nat × Nat)}
theorem of_im {w0 : World} (h : IM w0 w cb n N A G) : IMB w0.heap.size w cb n N A G := ⟨h.len, h.outer, h.rows, h.ne, h.inj, h.ocb, h.og⟩
theorem kept {S : Nat → Prop} (h : IMB base w cb n N A G) (hc : Chg S w w') (hS : ∀ k, base ≤ k → k < w.heap.size → ¬ S k) : IMB base w' cb n N A G :=
  ⟨h.len, hc.blk h.outer (hS _ h.ocb h.outer.lt), fun k hk => (h.rows k hk).chg hc (hS _ (h.og k hk) (h.rows k hk).lt), h.ne, h.inj, h.ocb, h.og⟩
theorem row_len (h : IMB base w cb n N A G) {k : Nat} (hk : k < G.length) : (row A k).length = n := by
  have := (h.rows k hk).len
  rw [ivL_len] at this
  omega
theorem outer_at (h : IMB base w cb n N A G) {k : Nat} (hk : k < G.length) : w.cell? ⟨cb, k, none⟩ = some (.slice (some ⟨G[k].1, 0, none⟩) n G[k].2) := h.outer.cell_some (outG_at hk)
theorem ent_at (h : IMB base w cb n N A G) {k j : Nat} (hk : k < G.length) (hj : j < n) : w.cell? ⟨G[k].1, j, none⟩ = some (.int .i64 (ent A k j)) := by
  have hl := h.row_len hk
  have := (h.rows k hk).at_ j (.int .i64 (ent A k j)) (by
    unfold ivL ent
    rw [List.getElem?_map, List.getElem?_eq_getElem (by omega)]
    rfl)
  rwa [Nat.zero_add] at this
theorem free (h : IMB base w cb n N A G) {k : Nat} (hk : k < G.length) (j : Nat) : w.frozen? ⟨G[k].1, j, none⟩ = false := (h.rows k hk).free j
theorem set (h : IMB base w cb n N A G) {k j : Nat} (hk : k < G.length) (hj : j < n) (x : Int) : IMB base (w.setCell ⟨G[k].1, j, none⟩ (.int .i64 x)) cb n N (A.set k ((row A k).set j x)) G := by
  refine ⟨by rw [List.length_set]; exact h.len, h.outer.setOther (h.ne k hk) _, fun i hi => ?_, h.ne, h.inj, h.ocb, h.og⟩
  by_cases hik : k = i
  · subst hik
    have hr : row (A.set k ((row A k).set j x)) k = (row A k).set j x := by
      unfold row
      rw [List.getElem?_set_self (by rw [h.len]; exact hk)]
      rfl
    rw [hr, ivL_set]
    have := (h.rows k hk).set1 hj (.int .i64 x)
    rwa [Nat.zero_add] at this
  · have hr : row (A.set k ((row A k).set j x)) i = row A i := by
      unfold row
      rw [List.getElem?_set_ne hik]
    rw [hr]
    exact (h.rows i hi).chg ((Chg.refl (fun b => b = G[k].1) w).setCell (a := ⟨G[k].1, j, none⟩) (.inl rfl) _) (fun e => hik (h.inj i k hi hk e).symm)
theorem mat (h : IMB base w cb n N A G) (hn : n ≤ G.length) : MatI w cb n A := fun i hi => ⟨G[i].1, G[i].2, h.outer_at (by omega), fun j hj => h.ent_at (by omega) hj⟩
end IMB
theorem IM.made1 {w0 w : World} {cb n : Nat} {A : List (List Int)} {G : List (Nat × Nat)} (h : IM w0 w cb n n A G) (hlt : G.length < n) :
    IM w0 (((w.alloc (.cells (Array.replicate n (.int .i64 0)) 3)).setCell ⟨cb, G.length, none⟩ (.slice (some ⟨w.heap.size, 0, none⟩) n n)).setCell ⟨w.heap.size, G.length, none⟩ (.int .i64 1)) cb n n (A ++ [idR n G.length]) (G ++ [(w.heap.size, n)]) := by
  have h1 := h.made hlt
  have h2 := h1.set (k := G.length) (j := G.length) (by simp) hlt 1
  have e1 : (G ++ [(w.heap.size, n)])[G.length]'(by simp) = (w.heap.size, n) := by simp
  rw [e1] at h2
  have e2 : row (A ++ [List.replicate n 0]) G.length = List.replicate n 0 := by unfold row; rw [← h.len]; simp
  have e3 : (A ++ [List.replicate n (0 : Int)]).set G.length ((List.replicate n 0).set G.length 1) = A ++ [idR n G.length] := by
    rw [← h.len, List.set_append_right _ _ (Nat.le_refl _), Nat.sub_self]
    rfl
  rw [e2, e3] at h2
  exact h2

set_option maxRecDepth 100000 in
set_option maxHeartbeats 1000000 in
theorem recurrence_ok (V : List (List Nat)) (hV : WF V) (t : List Nat) (ht : ∀ c ∈ t, c < V.length) (hl : t.length ≤ 30) (b off cap : Nat) (w : World) (hv : VAt w b off V) :
    Calls Tryd.prog 19 #[.slice (some ⟨b, off, none⟩) V.length cap, .string (str t)] w fun e w' => (∃ g c, e = .returned (.tuple #[.slice (some ⟨g, 0, none⟩) V.length c, .int .i64 0]) ∧ IntsAt w' g 0 (recV V) ∧ (recV V).length = V.length) ∧ Chg (fun _ => False) w w' := by
  have hn6 := hV.le
  have hn1 := hV.pos
  have hmk := make_mat V.length (by omega)
  have hmi := make_ints V.length (by omega)
  have HI3 : Hid (∃ i0, Tryd.prog.info? 3 = some i0 ∧ i0.zero = some (.int .i64 0) ∧ i0.size = 1 ∧ i0.bytes = 8) := Lib.hid (by
    obtain ⟨i0, h0, h1, h2, h3⟩ := info_parts info3
    exact ⟨i0, h0, h1, h2, h3⟩)
  have HS := Lib.hid (shot_ok V hV t ht hl b off cap w hv)
  have HGR := Lib.hid (grows_any V hV b off cap w hv)
  have HRV := Lib.hid (show recV V = (recF V.length (growsM V) V.length).2 from rfl)
  obtain ⟨n, hn⟩ : ∃ n, V.length = n := ⟨_, rfl⟩
  rw [hn] at hn6 hn1 hmk hmi HS HGR HRV ⊢
  clear hv hV ht hl hn
  go_enter Tryd.func19, Tryd.ntmps19
  go_wp2_with fail
  refine HS.out.mono ?_
  rintro e w1 ⟨rfl, rfl⟩
  go_wp2_with fail
  refine HGR.out.mono ?_
  rintro e wM ⟨⟨mb, GM, rfl, hm, hgm⟩, hcM⟩
  have HM := Lib.hid (hm.mat (Nat.le_of_eq hgm.symm)); have HCM := Lib.hid hcM
  clear hm hgm hcM HS HGR
  have HB0 := Lib.hid (made_mat n n wM)
  obtain ⟨cb, hcb⟩ : ∃ cb, wM.heap.size = cb := ⟨_, rfl⟩
  have HCB := Lib.hid hcb
  rw [hcb] at HB0
  go_wp2_with fail
  clear hcb hmk
  generalize wM.alloc (.cells (Array.replicate n (.slice none 0 0)) 29) = W0 at HB0 ⊢
  go_loopg [37] n (fun gm iv wr => ∃ (i : Nat) (G : List (Nat × Nat)), i ≤ n ∧ gm = n - i ∧ iv = .int .i64 i ∧ G.length = i ∧ IM wM wr cb n n (idM n i) G)
  case atStart => exact ⟨0, [], by omega, by omega, rfl, rfl, HB0.out⟩
  case round =>
    clear HB0
    obtain ⟨i, G, hi, rfl, rfl, hG, hB⟩ := hrel
    have HG := Lib.hid hG; have HB := Lib.hid hB
    clear hG hB
    by_cases hlt : i < n
    · have d0 : decide (i < n) = true := by simpa using hlt
      obtain ⟨rb, hrb⟩ : ∃ rb, wr.heap.size = rb := ⟨_, rfl⟩
      have HN := Lib.hid (HB.out.made1 (by rw [HG.out]; exact hlt))
      rw [HG.out, hrb] at HN
      have c1 := (HB.out.outer.alloc (.cells (Array.replicate n (.int .i64 0)) 3)).cell_some (outG_next (by rw [HG.out]; exact hlt))
      rw [HG.out] at c1
      have f1 := (HB.out.outer.alloc (.cells (Array.replicate n (.int .i64 0)) 3)).free i
      have b1 := made_ints n wr
      rw [hrb] at b1
      have c2 := b1.cell_some (nv_at (i := i) (by simpa using hlt))
      have f2 := b1.free i
      have hne : cb ≠ rb := by have := HB.out.outer.lt; omega
      have HNX := Lib.hid (idM_next n i)
      clear b1
      go_wp2_with fail
      go_roundg (n - (i + 1))
      case measure => omega
      case rel => exact ⟨i + 1, G ++ [(rb, n)], by omega, rfl, by go_num, by rw [List.length_append, HG.out]; rfl, by rw [HNX.out]; exact HN.out⟩
    · obtain rfl : i = n := by omega
      have HB1 : Hid (MatI wr cb i (recF i (growsM V) 0).1) := Lib.hid (HB.out.mat (Nat.le_of_eq HG.out.symm))
      have HO1 : Hid (wr.ownsRow wM.heap.size 3 1 nilS 0 (ivL (recF i (growsM V) 0).2)) := Lib.hid (World.ownsRow_nil wr _ 3 1)
      have HC1 := Lib.hid HB.out.chg
      obtain ⟨M, hMM⟩ : ∃ M, growsM V = M := ⟨_, rfl⟩
      rw [hMM] at HB1 HO1 HM HRV
      clear HB HG hmi hMM
      go_wp2_with fail
      go_loopg [15, 13, 12] i (fun gm kv bvv ov wr => ∃ (k cb : Nat), k ≤ i ∧ gm = i - k ∧ kv = .int .i64 ((k + 1 : Nat) : Int) ∧ bvv = .slice (some ⟨cb, 0, none⟩) i i ∧ MatI wr cb i (recF i M k).1 ∧ wr.ownsRow wM.heap.size 3 1 ov k (ivL (recF i M k).2) ∧ Chg (fun _ => False) wM wr)
      case atStart => exact ⟨0, cb, by omega, by omega, rfl, rfl, HB1.out, HO1.out, HC1.out⟩
      case round =>
        clear HB1 HO1 HC1
        obtain ⟨k, cb, hk, rfl, rfl, rfl, hb, ho, hc⟩ := hrel
        have HB := Lib.hid hb; have HO := Lib.hid ho; have HC := Lib.hid hc
        clear hb ho hc
        generalize u12 = ov at HO ⊢
        have HPRD := Lib.hid (product_any M (recF i M k).1 i hn1 hn6 mb i cb i wr (HM.out.chg HC.out) HB.out)
        have HNX1 := Lib.hid (show (recF i M (k + 1)).1 = subF (prM M (recF i M k).1 i i) (wrap64 ((trF (prM M (recF i M k).1 i i) i).tdiv ((k + 1 : Nat) : Int))) i from rfl)
        have HNX2 := Lib.hid (show (recF i M (k + 1)).2 = (recF i M k).2 ++ [wrap64 ((trF (prM M (recF i M k).1 i i) i).tdiv ((k + 1 : Nat) : Int))] from rfl)
        obtain ⟨B1, hB1⟩ : ∃ B1, prM M (recF i M k).1 i i = B1 := ⟨_, rfl⟩
        rw [hB1] at HPRD HNX1 HNX2
        clear hB1
        obtain ⟨K, hK⟩ : ∃ K, k + 1 = K := ⟨_, rfl⟩
        have HKK := Lib.hid hK
        have hK7 : K ≤ 7 := by omega
        have hK0 : 0 < K := by omega
        rw [hK] at HNX1 HNX2 ⊢
        by_cases hkn : K ≤ i
        · have d1 : decide ((K : Int) ≤ (i : Int)) = true := by simp; omega
          clear hK
          go_wp2_with fail
          refine HPRD.out.mono ?_
          rintro e w2 ⟨⟨cb1, G1, rfl, him, hg1⟩, hc2⟩
          have HI2 := Lib.hid (IMB.of_im him); have HG1 := Lib.hid hg1; have HO2 := Lib.hid (owns_chg HO.out hc2); have HC2 := Lib.hid hc2
          clear him hg1 hc2
          have hsz2 := HC2.out.size
          obtain ⟨s1, hs1⟩ : ∃ s1, wr.heap.size = s1 := ⟨_, rfl⟩
          have HS1M := Lib.hid (show wM.heap.size ≤ s1 by rw [← hs1]; exact HC.out.size)
          have HVB := Lib.hid (show ∀ g, ov.ownBlock = some g → wM.heap.size ≤ g from fun g hg => (HO.out.lt g hg).1)
          have HCT := Lib.hid (HC.out.trans HC2.out (fun _ x => x.elim))
          rw [hs1] at HI2 hsz2
          have HVS := Lib.hid (show ∀ g, ov.ownBlock = some g → g < s1 from fun g hg => by rw [← hs1]; exact (HO.out.lt g hg).2)
          clear hs1
          go_wp2_with fail
          go_loopg [64, 16] i (fun gm jv tv wr => ∃ j : Nat, j ≤ i ∧ gm = i - j ∧ jv = .int .i64 j ∧ tv = .int .i64 (trF B1 j) ∧ wr = w2)
          case atStart => exact ⟨0, by omega, by omega, rfl, rfl, rfl⟩
          case round =>
            obtain ⟨j, hj, rfl, rfl, rfl, rfl⟩ := hrel
            by_cases hjl : j < i
            · have d2 : decide (j < i) = true := by simpa using hjl
              have hjG : j < G1.length := by rw [HG1.out]; exact hjl
              have m1 := HI2.out.outer_at hjG
              have m2 := HI2.out.ent_at hjG hjl
              obtain ⟨g, hg⟩ : ∃ g, G1[j].1 = g := ⟨_, rfl⟩
              obtain ⟨gc, hgc⟩ : ∃ gc, G1[j].2 = gc := ⟨_, rfl⟩
              rw [hg] at m1 m2
              rw [hgc] at m1
              clear hg hgc hjG
              have HTS := Lib.hid (show trF B1 (j + 1) = wrap64 (trF B1 j + ent B1 j j) from rfl)
              obtain ⟨x, hx⟩ : ∃ x, ent B1 j j = x := ⟨_, rfl⟩
              obtain ⟨y, hy⟩ : ∃ y, trF B1 j = y := ⟨_, rfl⟩
              rw [hx] at m2
              rw [hx, hy] at HTS
              rw [hy]
              clear hx hy
              go_wp2_with fail
              go_roundg (i - (j + 1))
              case measure => omega
              case rel => exact ⟨j + 1, by omega, rfl, by go_num, by rw [HTS.out], rfl⟩
            · obtain rfl : j = i := by omega
              obtain ⟨T, hT⟩ : ∃ T, trF B1 j = T := ⟨_, rfl⟩
              rw [hT] at HNX1 HNX2 ⊢
              clear hT
              go_upto_region 27 with (fail)
              obtain ⟨c, hc⟩ : ∃ c, wrap64 (T.tdiv (K : Int)) = c := ⟨_, rfl⟩
              rw [hc] at HNX1 HNX2 ⊢
              clear hc
              have HX3 := Lib.hid (Blk.new wr #[.int .i64 c] 3)
              have HOA := Lib.hid (owns_chg HO2.out ((Chg.refl (fun _ => False) wr).alloc (.cells #[.int .i64 c] 3)))
              have HIA := Lib.hid (HI2.out.kept ((Chg.refl (fun _ => False) wr).alloc (.cells #[.int .i64 c] 3)) (fun _ _ _ x => x))
              have HCA := Lib.hid (HCT.out.alloc (.cells #[.int .i64 c] 3))
              have HBS := Lib.hid (show wM.heap.size ≤ (wr.alloc (.cells #[.int .i64 c] 3)).heap.size from HCA.out.size)
              obtain ⟨g3, hg3⟩ : ∃ g3, wr.heap.size = g3 := ⟨_, rfl⟩
              rw [hg3] at HX3
              have HSZ := Lib.hid (show (wr.alloc (.cells #[.int .i64 c] 3)).heap.size = g3 + 1 by show (wr.heap.push _).size = _; rw [Array.size_push, hg3])
              go_wp2_with (at_builtin; refine wpList_append_two rfl (.tmp 80) (.tmp 82) 29 rfl wM.heap.size 3 HI3.out.choose _ 1 8 Tryd.underlying29 HI3.out.choose_spec.1 HI3.out.choose_spec.2.1 HI3.out.choose_spec.2.2.1 HI3.out.choose_spec.2.2.2 rfl (by decide) ov k _ (by simp [Act.eval]) HOA.out ⟨g3, 0, none⟩ 1 1 [.int .i64 c] (by simp [Act.eval]) rfl (fun j v hj => by rw [add_plain, Nat.zero_add]; exact HX3.out.cell_some hj) (by intro v hv; simp at hv; subst hv; rfl) (by unfold maxLen; omega) (by omega) HBS.out ?_)
              intro v' w3 hown' hgrow htwo
              have hcg := Chg.of_grownRow hgrow
              have HO3 := Lib.hid hown'
              have HI3b := Lib.hid (HIA.out.kept hcg (fun g h1 h2 h3 => by have := HVS.out g h3.symm; omega))
              have HC3 := Lib.hid (HCA.out.trans hcg (fun g hg => .inr (HVB.out g hg.symm)))
              have HV3 : Hid (∀ g, v'.ownBlock = some g → ¬ (s1 ≤ g ∧ g < g3 + 1)) := Lib.hid (fun g hg hgg => by
                rcases htwo with h | ⟨g', h1, h2⟩
                · rw [h] at hg
                  have := HVS.out g hg
                  omega
                · rw [h2] at hg
                  cases hg
                  omega)
              have HGL : Hid (∀ q (h : q < G1.length), G1[q].1 < g3 + 1) := Lib.hid (fun q hq => by have := (HI2.out.rows q hq).lt; omega)
              clear hown' hgrow htwo hcg hg3
              go_wp2_with fail
              go_loopg [86] j (fun gm iv wr => ∃ q : Nat, q ≤ j ∧ gm = j - q ∧ iv = .int .i64 q ∧ IMB s1 wr cb1 j j (subF B1 c q) G1 ∧ Chg (fun k => s1 ≤ k ∧ k < g3 + 1) w3 wr)
              case atStart => exact ⟨0, by omega, by omega, rfl, HI3b.out, Chg.refl _ _⟩
              case round =>
                obtain ⟨q, hq, rfl, rfl, him, hch⟩ := hrel
                have HI := Lib.hid him; have HCH := Lib.hid hch
                clear him hch
                by_cases hql : q < j
                · have d3 : decide (q < j) = true := by simpa using hql
                  have hqG : q < G1.length := by rw [HG1.out]; exact hql
                  have m1 := HI.out.outer_at hqG
                  have m2 := HI.out.ent_at hqG hql
                  have m3 := HI.out.free hqG q
                  have HIS := Lib.hid (HI.out.set hqG hql (wrap64 (ent (subF B1 c q) q q - c)))
                  have HGA := Lib.hid (show s1 ≤ G1[q].1 ∧ G1[q].1 < g3 + 1 from ⟨HI.out.og q hqG, HGL.out q hqG⟩)
                  have HSS := Lib.hid (show subF B1 c (q + 1) = (subF B1 c q).set q ((row (subF B1 c q) q).set q (wrap64 (ent (subF B1 c q) q q - c))) from rfl)
                  obtain ⟨g, hg⟩ : ∃ g, G1[q].1 = g := ⟨_, rfl⟩
                  obtain ⟨gc, hgc⟩ : ∃ gc, G1[q].2 = gc := ⟨_, rfl⟩
                  rw [hg] at m1 m2 m3 HIS HGA
                  rw [hgc] at m1
                  clear hg hgc hqG
                  obtain ⟨x, hx⟩ : ∃ x, ent (subF B1 c q) q q = x := ⟨_, rfl⟩
                  rw [hx] at m2 HIS HSS
                  clear hx
                  go_wp2_with fail
                  go_roundg (j - (q + 1))
                  case measure => omega
                  case rel => exact ⟨q + 1, by omega, rfl, by go_num, by rw [HSS.out]; exact HIS.out, HCH.out.setCell (a := ⟨g, q, none⟩) (.inl HGA.out) _⟩
                · obtain rfl : q = j := by omega
                  go_wp2_with fail
                  go_roundg (q - (k + 1))
                  case measure => have := HKK.out; omega
                  case rel =>
                    refine ⟨k + 1, cb1, by have := HKK.out; omega, rfl, by have := HKK.out; go_num, rfl, ?_, ?_, ?_⟩
                    · rw [HKK.out, HNX1.out]; exact HI.out.mat (Nat.le_of_eq HG1.out.symm)
                    · rw [HKK.out, HNX2.out, show ivL ((recF q M k).2 ++ [c]) = ivL (recF q M k).2 ++ [.int .i64 c] by simp [ivL], ← HKK.out]
                      exact owns_chgS HO3.out HCH.out HV3.out
                    · exact HC3.out.trans HCH.out (fun g hg => .inr (by have := HS1M.out; omega))
        · obtain rfl : k = i := by omega
          have d1 : decide ((K : Int) ≤ (k : Int)) = false := by simp; omega
          clear HNX1 HNX2 HPRD
          go_wp2_with fail
          go_ret2
          obtain ⟨ao, g, c, hv, hX, hI, _⟩ := owns_list HO.out
          have hlen : (recF k M k).2.length = k := by have := HO.out.1; rw [ivL_len] at this; omega
          have hao := hX.resolve_left (fun e => by rw [e] at hlen; simp at hlen; omega)
          refine ⟨⟨g, c, ?_, ?_, ?_⟩, HCM.out.trans HC.out (fun _ x => x.elim)⟩
          · rw [hlen] at hv
            subst hv
            subst hao
            rfl
          · rw [HRV.out]; exact hI
          · rw [HRV.out]; exact hlen
end Go.Proofs.YtilacamhjibneaaDoor
