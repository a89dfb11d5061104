/- The reference's Recurrence, walked. Its conditions are its premises. -/
import Derived.Test.YtilacamhjibneaaDoorV66
set_option linter.unusedVariables false
namespace Go.Proofs.YtilacamhjibneaaDoor
open Go.RowKit

def rowS (V : List (List Nat)) (p q k : Nat) : List Nat := (List.range V.length).map fun j => if j < q then (part V j).count p else if j = q then ((part V q).take k).count p else 0
theorem rowS_len (V : List (List Nat)) (p q k : Nat) : (rowS V p q k).length = V.length := by simp [rowS]
theorem rowS_at (V : List (List Nat)) (p q k : Nat) {j : Nat} (hj : j < V.length) : at0 (rowS V p q k) j = if j < q then (part V j).count p else if j = q then ((part V q).take k).count p else 0 := by
  unfold at0 rowS
  rw [List.getElem?_map, List.getElem?_range hj]
  rfl
theorem nat_ext {l m : List Nat} (hl : l.length = m.length) (h : ∀ j, j < l.length → at0 l j = at0 m j) : l = m := by
  refine List.ext_getElem hl (fun j h1 h2 => ?_)
  have := h j h1
  rwa [at0_lt_of h1, at0_lt_of h2] at this
theorem rowS_zero (V : List (List Nat)) (p : Nat) : rowS V p 0 0 = List.replicate V.length 0 := by
  refine nat_ext (by simp [rowS_len]) (fun j hj => ?_)
  rw [rowS_len] at hj
  rw [rowS_at V p 0 0 hj, if_neg (by omega)]
  unfold at0
  rw [List.getElem?_replicate, if_pos hj]
  split <;> simp
theorem rowS_next (V : List (List Nat)) (p q : Nat) : rowS V p (q + 1) 0 = rowS V p q (part V q).length := by
  refine nat_ext (by simp [rowS_len]) (fun j hj => ?_)
  rw [rowS_len] at hj
  rw [rowS_at _ _ _ _ hj, rowS_at _ _ _ _ hj, List.take_length]
  by_cases h1 : j < q
  · rw [if_pos (by omega), if_pos h1]
  · by_cases h2 : j = q
    · subst h2; rw [if_pos (by omega), if_neg h1, if_pos rfl]
    · rw [if_neg (by omega), if_neg h1, if_neg h2]
      split <;> simp
theorem rowS_done (V : List (List Nat)) (p : Nat) : rowS V p V.length 0 = cntR V p := by
  refine nat_ext (by simp [rowS_len, cntR_len]) (fun j hj => ?_)
  rw [rowS_len] at hj
  rw [rowS_at _ _ _ _ hj, if_pos hj]
  unfold at0 cntR
  rw [List.getElem?_map, List.getElem?_range hj]
  rfl
theorem rowS_step (V : List (List Nat)) (p q k : Nat) (hk : k < (part V q).length) (hq : q < V.length) : rowS V p q (k + 1) = if (part V q)[k] = p then (rowS V p q k).set q (at0 (rowS V p q k) q + 1) else rowS V p q k := by
  have ht : (part V q).take (k + 1) = (part V q).take k ++ [(part V q)[k]] := (List.take_append_getElem hk).symm
  by_cases h : (part V q)[k] = p
  · rw [if_pos h]
    refine nat_ext (by simp [rowS_len]) (fun j hj => ?_)
    rw [rowS_len] at hj
    rw [at0_set _ _ _ _ (by rw [rowS_len]; exact hq), rowS_at _ _ _ _ hj, rowS_at _ _ _ _ hj, rowS_at _ _ _ _ hq, ht, List.count_append, h]
    by_cases hqj : q = j
    · subst hqj; simp
    · rw [if_neg hqj]
      have : ¬ j = q := fun e => hqj e.symm
      rw [if_neg this, if_neg this]
  · rw [if_neg h]
    refine nat_ext (by simp [rowS_len]) (fun j hj => ?_)
    rw [rowS_len] at hj
    rw [rowS_at _ _ _ _ hj, rowS_at _ _ _ _ hj, ht, List.count_append]
    have : List.count p [(part V q)[k]] = 0 := by simp [h]
    rw [this]
    rfl
theorem rowS_le (V : List (List Nat)) (hV : WF V) (p q k j : Nat) : at0 (rowS V p q k) j ≤ 8 := by
  by_cases hj : j < V.length
  · rw [rowS_at _ _ _ _ hj]
    split
    · exact Nat.le_trans List.count_le_length (hV.part_le j).1
    · split
      · refine Nat.le_trans List.count_le_length ?_
        rw [List.length_take]
        have := (hV.part_le q).1
        omega
      · omega
  · unfold at0
    rw [List.getElem?_eq_none (by rw [rowS_len]; omega)]
    simp

theorem test_bit (m p : Nat) : (((m : Int) / 2 ^ p).tmod 2 == 1) = bit1 m p := by
  have h1 : ((m : Int) / 2 ^ p) = ((m / 2 ^ p : Nat) : Int) := by
    rw [Int.natCast_ediv, Int.natCast_pow]
    rfl
  have h2 : (((m / 2 ^ p : Nat) : Int)).tmod 2 = ((m / 2 ^ p % 2 : Nat) : Int) := by
    rw [Int.tmod_eq_emod_of_nonneg (Int.natCast_nonneg _)]
    omega
  unfold bit1
  rw [h1, h2]
  by_cases h : m / 2 ^ p % 2 = 1
  · rw [h]; rfl
  · have h3 : m / 2 ^ p % 2 = 0 := by omega
    rw [h3]; rfl
def fD (V : List (List Nat)) (S : List Nat) : Int := det (ent (cntM V)) S S
/-- What lies in the list of the coefficients when the sets below m are done. -/
def outS (V : List (List Nat)) (m : Nat) : List Int := (List.range V.length).map fun j => sgn j * pS (fD V) V.length (j + 1) m
theorem bits_some : ∀ n, n < 7 → ∀ m, m < 64 → m < 2 ^ n → 1 ≤ m → bitsF m n ≠ [] := by decide +kernel
theorem fD_bound (V : List (List Nat)) (hV : WF V) (S : List Nat) (h : S.length ≤ 6) : (fD V S).natAbs ≤ 30840979456 :=
  Nat.le_trans (det_bound (fun i j => ent_cnt_abs hV i j) S S (by omega)) (pow_56 h)
theorem outS_bound (V : List (List Nat)) (hV : WF V) (m k : Nat) (hm : m ≤ 64) : (pS (fD V) V.length k m).natAbs ≤ m * 30840979456 := by
  have hn := hV.le
  have key : ∀ m, (pS (fD V) V.length k m).natAbs ≤ m * 30840979456 := by
    intro m
    induction m with
    | zero => simp [pS]
    | succ m ih =>
      rw [pS]
      have h1 := fD_bound V hV (bitsF m V.length) (Nat.le_trans (bitsF_len m _) hn)
      split <;> omega
  exact key m
theorem outS_next (V : List (List Nat)) (m : Nat) {j : Nat} (hj : (bitsF m V.length).length = j + 1) (hjn : j < V.length) : outS V (m + 1) = (outS V m).set j (sgn j * pS (fD V) V.length (j + 1) m + sgn j * fD V (bitsF m V.length)) := by
  refine List.ext_getElem (by simp [outS]) (fun i h1 h2 => ?_)
  have hi : i < V.length := by simpa [outS] using h1
  rw [List.getElem_set]
  unfold outS
  simp only [List.getElem_map, List.getElem_range, pS]
  by_cases hij : j = i
  · subst hij
    rw [if_pos rfl, if_pos hj, Int.mul_add]
  · rw [if_neg hij, if_neg (by omega), Int.add_zero]
theorem outS_done (V : List (List Nat)) (hV : WF V) : outS V (2 ^ V.length) = cofs V := by
  have hn := hV.le
  unfold outS cofs
  refine List.map_congr_left (fun j hj => ?_)
  have hj := List.mem_range.1 hj
  rw [pS_all (fD V) hn (by omega)]
  rfl
theorem outS_at (V : List (List Nat)) (m : Nat) {j : Nat} (hj : j < V.length) : (ivL (outS V m))[j]? = some (.int .i64 (sgn j * pS (fD V) V.length (j + 1) m)) := by
  unfold ivL outS
  rw [List.getElem?_map, List.getElem?_map, List.getElem?_range hj]
  rfl
theorem ints_of_blk {w : World} {g : Nat} {X : List Int} (h : Blk w g 3 (ivL X)) : IntsAt w g 0 X := fun k hk => by
  rw [Nat.zero_add]
  refine h.cell_some ?_
  unfold ivL
  rw [List.getElem?_map, List.getElem?_eq_getElem hk]
  rfl
theorem outS_len (V : List (List Nat)) (m : Nat) : (outS V m).length = V.length := by simp [outS]
theorem sgn_par (j : Nat) : sgn j = if j % 2 = 0 then 1 else -1 := by
  induction j with
  | zero => rfl
  | succ j ih =>
    rw [sgn_succ, ih]
    by_cases h : j % 2 = 0
    · rw [if_pos h, if_neg (by omega)]
    · rw [if_neg h, if_pos (by omega)]; rfl
theorem outS_one (V : List (List Nat)) : ivL (outS V 1) = nv (List.replicate V.length 0) := by
  have hb : ∀ n, bitsF 0 n = [] := by
    intro n
    induction n with
    | zero => rfl
    | succ n ih => rw [bitsF, ih]; simp [bit1]
  have h : outS V 1 = List.replicate V.length 0 := by
    unfold outS
    rw [List.map_congr_left (g := fun _ => (0 : Int)) (fun j _ => by simp [pS, hb]), List.map_const']
    simp
  rw [h]
  simp [ivL, nv]

set_option maxRecDepth 100000 in
set_option maxHeartbeats 1000000 in
theorem rrecurrence_ok (V : List (List Nat)) (hV : WF V) (t : List Nat) (ht : ∀ c ∈ t, c < V.length) (hl : t.length ≤ 30) (b off cap : Nat) (w : World) (hv : VAt w b off V) :
    Calls Tryd.prog 20 #[.slice (some ⟨b, off, none⟩) V.length cap, .string (str t)] w fun e w' => (∃ g c, e = .returned (.tuple #[.slice (some ⟨g, 0, none⟩) V.length c, .int .i64 0]) ∧ IntsAt w' g 0 (cofs V)) ∧ Chg (fun _ => False) w w' := by
  have hn6 := hV.le
  have hn1 := hV.pos
  have hmi := make_ints V.length (by omega)
  have HS := Lib.hid (rshoot_ok V hV t ht hl b off cap w hv)
  have HV := Lib.hid hv; have HWF := Lib.hid hV
  clear hv hV ht hl
  go_enter Tryd.func20, Tryd.ntmps20
  go_wp2_with fail
  refine HS.out.mono ?_
  rintro e w1 ⟨rfl, rfl⟩
  go_wp2_with fail
  go_loopg [9, 8] V.length (fun gm pv mv wr => ∃ (p : Nat) (G : List Nat), p ≤ V.length ∧ gm = V.length - p ∧ pv = .int .i64 p ∧ G.length = p ∧ RG w1 wr 29 3 V.length (fun y => nv (cntR V y)) mv G)
  case atStart => exact ⟨0, [], by omega, by omega, rfl, rfl, World.ownsRow_nil w1 _ 29 1, fun y hy => by simp at hy, fun y z hy => by simp at hy, Chg.refl _ _⟩
  case round =>
    obtain ⟨p, G, hp, rfl, rfl, hG, hrg⟩ := hrel
    have HG := Lib.hid hG; have HRG := Lib.hid hrg
    clear hG hrg
    generalize u8 = mv at HRG ⊢
    by_cases hpn : p < V.length
    · have d0 : decide (p < V.length) = true := by simpa using hpn
      obtain ⟨rb, hrb⟩ : ∃ rb, wr.heap.size = rb := ⟨_, rfl⟩
      have HRB := Lib.hid hrb
      have HB0 := made_ints V.length wr
      rw [hrb] at HB0
      have HBK0 : Hid (Blk (wr.alloc (.cells (Array.replicate V.length (.int .i64 0)) 3)) rb 3 (nv (rowS V p 0 0))) := Lib.hid (by rw [rowS_zero]; exact HB0)
      have HC0 := Lib.hid ((Chg.refl (fun _ => False) wr).alloc (.cells (Array.replicate V.length (.int .i64 0)) 3))
      go_wp2_with fail
      clear HB0
      clear hrb
      obtain ⟨wo, hwo⟩ : ∃ wo : World, wo = wr := ⟨_, rfl⟩
      rw [← hwo] at HRG HRB HC0 HBK0 ⊢
      clear hwo
      generalize wo.alloc (.cells (Array.replicate V.length (.int .i64 0)) 3) = W0 at HC0 HBK0 ⊢
      go_loopg [11] V.length (fun gm qv wr => ∃ q : Nat, q ≤ V.length ∧ gm = V.length - q ∧ qv = .int .i64 q ∧ Blk wr rb 3 (nv (rowS V p q 0)) ∧ Chg (fun _ => False) wo wr)
      case atStart => exact ⟨0, by omega, by omega, rfl, HBK0.out, HC0.out⟩
      case round =>
        clear HBK0 HC0
        obtain ⟨q, hq, rfl, rfl, hbk, hc⟩ := hrel
        have HBK := Lib.hid hbk; have HC := Lib.hid hc
        clear hbk hc
        by_cases hqn : q < V.length
        · have d1 : decide (q < V.length) = true := by simpa using hqn
          have hp8 := (HWF.out.part_le q).1
          have HP := Lib.hid (HWF.out.part_le q).2
          have HSTEP := Lib.hid (fun k hk => rowS_step V p q k hk hqn)
          have HLE := Lib.hid (fun k => rowS_le V HWF.out p q k q)
          have HNX := Lib.hid (rowS_next V p q)
          have HLN := Lib.hid (fun k => rowS_len V p q k)
          go_wp2_with fail
          go_loopg [12] (part V q).length (fun gm kv wr => ∃ k : Nat, k ≤ (part V q).length ∧ gm = (part V q).length - k ∧ kv = .int .i64 k ∧ Blk wr rb 3 (nv (rowS V p q k)) ∧ Chg (fun _ => False) wo wr)
          case atStart => exact ⟨0, by omega, by omega, rfl, HBK.out, HC.out⟩
          case round =>
            clear HBK HC
            obtain ⟨k, hk, rfl, rfl, hbk, hc⟩ := hrel
            have HBK := Lib.hid hbk; have HC := Lib.hid hc
            clear hbk hc
            have c0 := (HV.out.chg (HRG.out.chg.trans HC.out (fun _ x => x.elim)) (fun x => x)) q hqn
            rw [← part_lt hqn] at c0
            have hsz := str_size (part V q)
            by_cases hkl : k < (part V q).length
            · have d3 : decide (k < (part V q).length) = true := by simpa using hkl
              have hcn := HP.out _ (List.getElem_mem hkl)
              have hidx := index_chr hkl (by omega)
              have hu8 := u8_chr (part V q)[k] (by omega)
              have HSK := Lib.hid (HSTEP.out k hkl)
              have k1 := HBK.out.cell_some (nv_at (i := q) (by rw [HLN.out]; exact hqn))
              have f1 := HBK.out.free q
              have hle := HLE.out k
              obtain ⟨x, hx⟩ : ∃ x, at0 (rowS V p q k) q = x := ⟨_, rfl⟩
              rw [hx] at k1 hle HSK
              have hwx : IntKind.i64.wrap ((x : Int) + 1) = ((x + 1 : Nat) : Int) := IntWalk.i64_in _ (by omega)
              obtain ⟨L, hL⟩ : ∃ L, part V q = L := ⟨_, rfl⟩
              have HL := Lib.hid hL
              simp only [hL] at c0 hsz hkl d3 hidx hu8 HSK hcn hp8 hk
              obtain ⟨d, hd⟩ : ∃ d, L[k] = d := ⟨_, rfl⟩
              rw [hd] at hcn hu8 HSK
              simp only [hd] at hidx
              by_cases hdp : d = p
              · subst hdp
                rw [if_pos rfl] at HSK
                clear hd hL hx
                go_wp2_with fail
                go_roundg ((part V q).length - (k + 1))
                case measure => have h : (part V q).length = L.length := by rw [HL.out]
                                omega
                case rel => exact ⟨k + 1, by rw [HL.out]; omega, rfl, by go_num, by rw [HSK.out, nv_set]; exact HBK.out.set q _, HC.out.setCell (.inr (by rw [HRB.out]; exact Nat.le_refl _)) _⟩
              · rw [if_neg hdp] at HSK
                clear hd hL hx
                have hdp' : ¬ (d : Int) = (p : Int) := by omega
                go_wp2_with fail
                go_roundg ((part V q).length - (k + 1))
                case measure => have h : (part V q).length = L.length := by rw [HL.out]
                                omega
                case rel => exact ⟨k + 1, by rw [HL.out]; omega, rfl, by go_num, by rw [HSK.out]; exact HBK.out, HC.out⟩
            · obtain rfl : k = (part V q).length := by omega
              have d3 : decide ((part V q).length < (part V q).length) = false := by simp
              go_wp2_with fail
              go_roundg (V.length - (q + 1))
              case measure => omega
              case rel => exact ⟨q + 1, by omega, rfl, by go_num, by rw [HNX.out]; exact HBK.out, HC.out⟩
        · obtain rfl : q = V.length := by omega
          rw [rowS_done] at HBK
          obtain ⟨g3, hg3⟩ : ∃ g3, wr.heap.size = g3 := ⟨_, rfl⟩
          have HA := Lib.hid (HRG.out.kept (HC.out.trans ((Chg.refl (fun _ => False) wr).alloc (.cells #[rv V.length rb] 29)) (fun _ x => x.elim)))
          have HX := Lib.hid ((Blk.new wr #[rv V.length rb] 29).cell_some (i := 0) rfl)
          rw [hg3] at HX
          have HBA := Lib.hid (HBK.out.alloc (.cells #[rv V.length rb] 29))
          have HNW := Lib.hid (show ∀ y (hy : y < G.length), G[y] ≠ rb from fun y hy e => by
            have h1 := (HRG.out.rows y hy).1.lt
            have h2 := HRB.out
            omega)
          have HNE := Lib.hid (show mv.ownBlock ≠ some rb from fun e => by
            have h1 := (HRG.out.own.lt rb e).2
            have h2 := HRB.out
            omega)
          have HW0 := Lib.hid (show w1.heap.size ≤ rb by rw [← HRB.out]; exact HRG.out.chg.size)
          unfold rv at HX
          go_wp2_with (at_builtin; refine wpList_rg rfl (.tmp 63) (.tmp 65) 62 29 rfl Tryd.underlying62 info29b (rb := rb) (g3 := g3) HA.out (by simp [Act.eval]) (by simp [Act.eval]) HX.out (by rw [HG.out]; exact HBA.out) HNW.out HNE.out HW0.out (by rw [HG.out]; omega) ?_; intro v' w2 hrg2)
          have HR2 := Lib.hid hrg2
          clear hrg2 hg3
          go_roundg (V.length - (p + 1))
          case measure => omega
          case rel => exact ⟨p + 1, G ++ [rb], by omega, rfl, by go_num, by rw [List.length_append, HG.out]; rfl, HR2.out⟩
    · obtain rfl : p = V.length := by omega
      obtain ⟨mg, mc, rfl, _, hmr⟩ := HRG.out.form (by rw [HG.out]; omega)
      rw [HG.out]
      have hmat : MatI wr mg V.length (cntM V) := fun i hi => ⟨G[i]'(by rw [HG.out]; exact hi), V.length, hmr i (by rw [HG.out]; exact hi), fun j hj => by
        have h1 := (HRG.out.rows i (by rw [HG.out]; exact hi)).1.cell_some (nv_at (N := cntR V i) (i := j) (by rw [cntR_len]; exact hj))
        rw [h1, ent_cnt V hi hj]
        unfold at0 cntR
        rw [List.getElem?_map, List.getElem?_range hj]
        rfl⟩
      have HMAT := Lib.hid hmat
      have HCR := Lib.hid HRG.out.chg
      have HBO := made_ints V.length wr
      have HCO := Lib.hid ((Chg.refl (fun _ => False) wr).alloc (.cells (Array.replicate V.length (.int .i64 0)) 3))
      obtain ⟨bo, hbo⟩ : ∃ bo, wr.heap.size = bo := ⟨_, rfl⟩
      have HBOE := Lib.hid hbo
      rw [hbo] at HBO
      have HB0 := Lib.hid HBO
      go_wp2_with fail
      clear HBO hbo hmr hmat
      obtain ⟨wq, hwq⟩ : ∃ wq : World, wq = wr := ⟨_, rfl⟩
      rw [← hwq] at HMAT HCR HBOE HCO HB0 ⊢
      clear hwq HRG
      generalize wq.alloc (.cells (Array.replicate V.length (.int .i64 0)) 3) = W0 at HCO HB0 ⊢
      obtain ⟨N2, hN2⟩ : ∃ N2, 2 ^ V.length = N2 := ⟨_, rfl⟩
      have HN2 := Lib.hid hN2
      have hN64 : N2 ≤ 64 := by rw [← hN2]; exact Nat.le_trans (Nat.pow_le_pow_right (by omega) hn6) (by decide)
      have hN1 : 1 ≤ N2 := by rw [← hN2]; exact Nat.one_le_two_pow
      have HPW := Lib.hid (show wrap64 ((2 : Int) ^ V.length) = (N2 : Int) by rw [i64_pow (by omega), hN2])
      clear hN2
      go_loopg [14] N2 (fun gm sv w2 => ∃ m : Nat, 1 ≤ m ∧ m ≤ N2 ∧ gm = N2 + 1 - m ∧ sv = .int .i64 (m : Int) ∧ Blk w2 bo 3 (ivL (outS V m)) ∧ Chg (fun _ => False) wq w2)
      case atStart => exact ⟨1, by omega, by omega, rfl, rfl, by rw [outS_one]; exact HB0.out, HCO.out⟩
      case round =>
        clear HB0 HCO
        obtain ⟨m, hm1, hm, rfl, rfl, hbk, hc⟩ := hrel
        have HBK := Lib.hid hbk; have HC := Lib.hid hc
        clear hbk hc
        obtain ⟨w9, hw9⟩ : ∃ w9 : World, w9 = wr := ⟨_, rfl⟩
        rw [← hw9] at HBK HC ⊢
        clear hw9
        by_cases hmN : m < N2
        · have dN : (m : Int) < wrap64 ((2 : Int) ^ V.length) := by rw [HPW.out]; omega
          go_wp2_with fail
          go_loopg [16, 15] V.length (fun gm pv lv w2 => ∃ p : Nat, p ≤ V.length ∧ gm = V.length - p ∧ pv = .int .i64 (p : Int) ∧ w2.ownsRow w9.heap.size 3 1 lv (bitsF m p).length (nv (bitsF m p)) ∧ Chg (fun _ => False) w9 w2)
          case atStart => exact ⟨0, by omega, by omega, rfl, World.ownsRow_nil w9 _ 3 1, Chg.refl _ _⟩
          case round =>
            obtain ⟨p, hp, rfl, rfl, how, hc2⟩ := hrel
            have HOW := Lib.hid how; have HC2 := Lib.hid hc2
            clear how hc2
            by_cases hpn : p < V.length
            · have d1 : decide (p < V.length) = true := by simpa using hpn
              have htb := test_bit m p
              have HBL := Lib.hid (bitsF_len m p)
              by_cases hbit : bit1 m p = true
              · rw [hbit] at htb
                have HNX := Lib.hid (show bitsF m (p + 1) = bitsF m p ++ [p] by rw [bitsF, if_pos hbit])
                obtain ⟨g3, hg3⟩ : ∃ g3, wr.heap.size = g3 := ⟨_, rfl⟩
                have HOA := Lib.hid (owns_chg HOW.out ((Chg.refl (fun _ => False) wr).alloc (.cells #[.int .i64 (p : Int)] 3)))
                have HXX : Hid (NatsAt (wr.alloc (.cells #[.int .i64 (p : Int)] 3)) g3 0 [p]) := Lib.hid (by
                  rw [← hg3]
                  intro k hk
                  obtain rfl : k = 0 := by simpa using hk
                  exact (Blk.new wr #[.int .i64 (p : Int)] 3).cell_some (i := 0) rfl)
                have HCA := Lib.hid (HC2.out.alloc (.cells #[.int .i64 (p : Int)] 3))
                clear hbit
                go_wp2_with (at_builtin; refine wpList_app rfl (.tmp 85) (.tmp 87) rfl w9.heap.size u15 (bitsF m p) [p] (by simp [Act.eval]) HOA.out (some ⟨g3, 0, none⟩) 1 (by simp [Act.eval]) (.inr ⟨_, _, rfl, HXX.out⟩) (by have := HBL.out; simp; omega) HCA.out.size ?_; intro v2 w2 hown2 hc2)
                clear hg3
                have HC3 := Lib.hid (chg_new (HCA.out.mono (fun _ x => x.elim)) hc2)
                have HO3 := Lib.hid hown2
                clear hown2 hc2
                go_roundg (V.length - (p + 1))
                case measure => omega
                case rel => exact ⟨p + 1, by omega, rfl, by go_num, by rw [HNX.out]; exact HO3.out, HC3.out⟩
              · rw [show bit1 m p = false by simpa using hbit] at htb
                have HNX := Lib.hid (show bitsF m (p + 1) = bitsF m p by rw [bitsF, if_neg hbit])
                clear hbit
                go_wp2_with fail
                go_roundg (V.length - (p + 1))
                case measure => omega
                case rel => exact ⟨p + 1, by omega, rfl, by go_num, by rw [HNX.out]; exact HOW.out, HC2.out⟩
            · obtain rfl : p = V.length := by omega
              have hm2 : m < 2 ^ V.length := by rw [HN2.out]; exact hmN
              obtain ⟨ao, lg, lo, lc, rfl, l1, l2, l3⟩ := sln_of_owns HOW.out
              have hsl : SlN wr (.slice ao (bitsF m V.length).length lc) (bitsF m V.length) := ⟨ao, lg, lo, lc, rfl, l1, l2, l3⟩
              have hbl := bitsF_len m V.length
              have HD := Lib.hid (rdet_any (cntM V) V.length hn6 (fun i j => ent_cnt_abs HWF.out i j) mg mc (bitsF m V.length) (bitsF m V.length) rfl (by omega) (fun r hr => bitsF_lt m _ r hr) (fun r hr => bitsF_lt m _ r hr) _ _ wr (HMAT.out.chg (HC.out.trans HC2.out (fun _ x => x.elim))) hsl hsl)
              obtain ⟨j, hj⟩ : ∃ j, (bitsF m V.length).length = j + 1 := ⟨(bitsF m V.length).length - 1, by
                have := bits_some V.length (by omega) m (by omega) hm2 hm1
                have := List.length_pos_iff.2 this
                omega⟩
              have HNX := Lib.hid (outS_next V m hj (by omega))
              have HBD := Lib.hid (outS_bound V HWF.out m (j + 1) (by omega))
              have HDB := Lib.hid (fD_bound V HWF.out (bitsF m V.length) (by omega))
              rw [hj] at HD ⊢
              have hjn : j < V.length := by omega
              have HDE : Hid (det (ent (cntM V)) (bitsF m V.length) (bitsF m V.length) = fD V (bitsF m V.length)) := Lib.hid rfl
              rw [HDE.out] at HD
              obtain ⟨d, hd⟩ : ∃ d, fD V (bitsF m V.length) = d := ⟨_, rfl⟩
              rw [hd] at HD HNX HDB
              obtain ⟨y, hy⟩ : ∃ y, pS (fD V) V.length (j + 1) m = y := ⟨_, rfl⟩
              rw [hy] at HNX HBD
              have HY := Lib.hid hy
              have k1 := HC2.out.blk HBK.out (fun x => x)
              have HBK2 := Lib.hid k1
              clear hd hy HOW l1 l2 l3 hsl hj hbl k1 HDE
              go_wp2_with fail
              refine HD.out.mono ?_
              rintro e w3 ⟨rfl, hc3⟩
              have HB3 := Lib.hid (hc3.blk HBK2.out (fun x => x))
              have HC3 := Lib.hid ((HC.out.trans HC2.out (fun _ x => x.elim)).trans hc3 (fun _ x => x.elim))
              clear hc3
              have c1 := HB3.out.cell_some (outS_at V m hjn)
              have f1 := HB3.out.free j
              rw [HY.out] at c1
              have hlen0 := outS_len V m
              by_cases hpar : j % 2 = 0
              · have hsg : sgn j = 1 := by rw [sgn_par, if_pos hpar]
                rw [hsg, Int.one_mul] at c1
                rw [hsg, Int.one_mul, Int.one_mul] at HNX
                have tst : (((j : Int) + 1) % 2 == 0) = false := by simp; omega
                have hsum : wrap64 (y + d) = y + d := wrap_id (by have := HBD.out; have := HDB.out; omega)
                have HSET := Lib.hid (show Blk (w3.setCell ⟨bo, j, none⟩ (.int .i64 (y + d))) bo 3 (ivL (outS V (m + 1))) by rw [HNX.out, ivL_set]; exact HB3.out.set j _)
                have HCS := Lib.hid (HC3.out.setCell (a := ⟨bo, j, none⟩) (.inr (by rw [HBOE.out]; exact Nat.le_refl _)) (.int .i64 (y + d)))
                clear hsg
                go_wp2_with fail
                go_roundg (N2 + 1 - (m + 1))
                case measure => omega
                case rel => exact ⟨m + 1, by omega, by omega, rfl, by go_num, HSET.out, HCS.out⟩
              · have hsg : sgn j = -1 := by rw [sgn_par, if_neg hpar]
                rw [hsg] at c1 HNX
                have tst : (((j : Int) + 1) % 2 == 0) = true := by simp; omega
                have hneg : wrap64 (-d) = -d := wrap_id (by have := HDB.out; omega)
                have hsum : wrap64 (-y + -d) = -y + -d := wrap_id (by have := HBD.out; have := HDB.out; omega)
                rw [show (-1 : Int) * y = -y by omega] at c1
                rw [show (-1 : Int) * y + -1 * d = -y + -d by omega] at HNX
                have HSET := Lib.hid (show Blk (w3.setCell ⟨bo, j, none⟩ (.int .i64 (-y + -d))) bo 3 (ivL (outS V (m + 1))) by rw [HNX.out, ivL_set]; exact HB3.out.set j _)
                have HCS := Lib.hid (HC3.out.setCell (a := ⟨bo, j, none⟩) (.inr (by rw [HBOE.out]; exact Nat.le_refl _)) (.int .i64 (-y + -d)))
                clear hsg
                go_wp2_with fail
                go_roundg (N2 + 1 - (m + 1))
                case measure => omega
                case rel => exact ⟨m + 1, by omega, by omega, rfl, by go_num, HSET.out, HCS.out⟩
        · obtain rfl : m = N2 := by omega
          have dN : ¬ (m : Int) < wrap64 ((2 : Int) ^ V.length) := by rw [HPW.out]; omega
          go_wp2_with fail
          go_ret2
          refine ⟨⟨bo, ⟨V.length, rfl⟩, ?_⟩, HCR.out.trans HC.out (fun _ x => x.elim)⟩
          rw [← outS_done V HWF.out, HN2.out]
          exact ints_of_blk HBK.out
end Go.Proofs.YtilacamhjibneaaDoor
