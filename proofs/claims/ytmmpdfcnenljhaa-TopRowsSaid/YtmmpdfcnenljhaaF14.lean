/- A polynomial as lists, walked: the loops. Its conditions are its premises. -/
import Derived.Test.YtmmpdfcnenljhaaF13
set_option linter.unusedVariables false
namespace Go.Proofs.Ytmmpdfcnenljhaa
open Go.RowKit

theorem index_rowT {T : List Int} {j i : Nat} (hT : T.length = 225) (hj : j < 15) (hi : i < 15) : ((rowT T j).map (Value.int .i64))[i]? = some (.int .i64 ((rowT T j).getD i 0)) := by
  rw [List.getElem?_map, List.getD_eq_getElem?_getD, List.getElem?_eq_getElem (by rw [rowT_len hT hj]; exact hi)]; rfl
theorem rowT_ints {w : World} {p : Nat} {e : TypeId} {r : List Int} (h : Blk w p e (r.map (Value.int .i64))) (k : Nat) : IntsAt w p 0 (r.take k) := fun i hi => by
  rw [List.length_take] at hi
  refine h.cell_some ?_
  rw [Nat.zero_add, List.getElem?_map, List.getElem_take, List.getElem?_eq_getElem (by omega)]
  rfl
theorem longTo_succ (r : List Int) (i : Nat) (h : r.getD i 0 ≠ 0) : longTo r (i + 1) = i + 1 := by rw [longTo, if_pos h]
theorem longTo_zero (r : List Int) (i : Nat) (h : r.getD i 0 = 0) : longTo r (i + 1) = longTo r i := by rw [longTo, if_neg (by simpa using h)]

theorem outTo_stay {T : List Int} {j : Nat} (h : longTo (rowT T j) 15 = 0) : outTo T (j + 1) = outTo T j := by rw [outTo, if_pos h]
theorem outTo_more {T : List Int} {j : Nat} (h : longTo (rowT T j) 15 ≠ 0) : outTo T (j + 1) = outTo T j ++ List.replicate (j - (outTo T j).length) [] ++ [(rowT T j).take (longTo (rowT T j) 15)] := by rw [outTo, if_neg h]

theorem owns_shape {w : World} {base : Nat} {e : TypeId} {sz : Nat} {v : Value} {n : Nat} {xs : List Value} (h : w.ownsRow base e sz v n xs) :
    ∃ ao c, v = .slice ao n c := by
  obtain ⟨ao, c, h, _⟩ := owns_form h
  exact ⟨ao, c, h⟩

theorem slice_row (nb n : Nat) (hn : n ≤ 15) (hn0 : 1 ≤ n) (w : World) :
    (Instr.sliceAt 76 (.pointer (some ⟨nb, 0, none⟩)) none (some (.int .i64 (n : Int))) none).run Try.prog w = .ok (.slice (some ⟨nb, 0, none⟩) n 15) w := by
  obtain ⟨i0, hi0, hz0, hz1, hz2⟩ := info_parts info3
  have hl : Try.prog.arrayLen 76 = 15 := by kernel_rfl
  have he : Try.prog.elem 76 = 3 := by kernel_rfl
  rw [run_sliceAt_array_h (P := Try.prog) w 76 ⟨nb, 0, none⟩ (by rw [hl, he]; exact Try.underlying76) .i64 (n : Int) (by omega) (by rw [hl]; omega)]
  rw [hl, he]
  simp [sizeOf, typeInfo, hi0, hz1, slicedAt, Result.andThen, Addr.add_lit]

set_option maxRecDepth 100000 in
set_option maxHeartbeats 2000000 in
theorem lists_any (T : List Int) (p : Nat) (w : World) (hT : PolyAt w p T) :
    Calls Try.prog 65 #[.pointer (some ⟨p, 0, none⟩)] w fun e w' => ∃ v, e = .returned v ∧ RowsAt w' w.heap.size v (outTo T 15) ∧ Chg (fun _ => False) w w' := by
  obtain ⟨i0, hi0, hz0, hz1, hz2⟩ := info_parts info40
  have HI0 := Lib.hid hi0; have HZ0 := Lib.hid hz0; have HZ1 := Lib.hid hz1; have HZ2 := Lib.hid hz2
  have HT := Lib.hid hT; have HLT := Lib.hid hT.2
  have hpl := hT.1.lt
  clear hT hi0 hz0 hz1 hz2
  go_enter Try.func65, Try.ntmps65
  go_wp2_with fail
  go_loopg [11, 3] 15 (fun gm iv v wr => ∃ j : Nat, j ≤ 15 ∧ gm = 15 - j ∧ iv = .int .i64 j ∧ RowsAt wr w.heap.size v (outTo T j) ∧ Chg (fun _ => False) w wr)
  case atStart => exact ⟨0, by omega, by omega, rfl, .nil _ _, Chg.refl _ w⟩
  case round =>
    obtain ⟨j, hj, rfl, rfl, hrows, hcg⟩ := hrel
    have HROWS := Lib.hid hrows; have HCG := Lib.hid hcg
    clear hrows hcg
    by_cases hlt : j < 15
    · obtain ⟨cs, hcs⟩ : ∃ cs, (rowT T j).map (Value.int .i64) = cs := ⟨_, rfl⟩
      have hr : wr.rangeAt p (j * 15) cs := fun k v hk => by
        subst hcs
        refine HCG.out.cell_some (poly_cell HT.out ?_) (fun x => x)
        unfold rowT at hk
        rw [List.map_take, List.getElem?_take] at hk
        split at hk
        · rwa [List.map_drop, List.getElem?_drop] at hk
        · cases hk
      have hu : Try.prog.underlying 76 = some (.array 15 3) := Try.underlying76
      have hcl : cs.length = 15 := by subst hcs; rw [List.length_map, rowT_len HLT.out hlt]
      have hi : (Try.prog.info? 76).map (·.size) = some cs.length := by
        rw [hcl]
        exact (show (Try.prog.info? 76).map (·.size) = some 15 by kernel_rfl)
      have HI76 := Lib.hid hi
      have h1 : ∀ v ∈ cs, v.oneCell' = true := by subst hcs; exact ints_one _
      have hnb := Blk.new wr #[Value.int .i64 0, Value.int .i64 0, Value.int .i64 0, Value.int .i64 0, Value.int .i64 0, Value.int .i64 0, Value.int .i64 0, Value.int .i64 0, Value.int .i64 0, Value.int .i64 0, Value.int .i64 0, Value.int .i64 0, Value.int .i64 0, Value.int .i64 0, Value.int .i64 0] 76
      have hth : (wr.alloc (Obj.cells #[Value.int .i64 0, Value.int .i64 0, Value.int .i64 0, Value.int .i64 0, Value.int .i64 0, Value.int .i64 0, Value.int .i64 0, Value.int .i64 0, Value.int .i64 0, Value.int .i64 0, Value.int .i64 0, Value.int .i64 0, Value.int .i64 0, Value.int .i64 0, Value.int .i64 0] 76)).drew.there wr.heap.size 0 cs.length := hnb.drew.there 0 _ (by rw [hcl]; simp)
      have hne : p ≠ wr.heap.size := by have := HCG.out.size; omega
      have HCL := Lib.hid hcl; have HNB := Lib.hid hnb; have HCS := Lib.hid hcs
      clear hcs hcl hnb
      go_wp2_with fail
      go_region_held3 (fun w' => w'.rangeAt p (j * 15) cs) (first | assumption | (apply World.rangeAt_alloc; assumption) | (exact World.rangeAt_setCells_apart ((World.rangeAt_drew _ _ _ _).2 (World.rangeAt_alloc hr _)) _ _ _ (.inl hne))) (fail)
      all_goals
        have hwb : Blk ((wr.alloc (Obj.cells #[Value.int .i64 0, Value.int .i64 0, Value.int .i64 0, Value.int .i64 0, Value.int .i64 0, Value.int .i64 0, Value.int .i64 0, Value.int .i64 0, Value.int .i64 0, Value.int .i64 0, Value.int .i64 0, Value.int .i64 0, Value.int .i64 0, Value.int .i64 0, Value.int .i64 0] 76)).drew.setCells wr.heap.size 0 cs) wr.heap.size 76 cs := by
          have := Blk.setCells cs 0 _ _ (by rw [HCL.out]; simp) HNB.out.drew
          rw [HCL.out] at this
          simpa using this
        have hch : Chg (fun _ => False) wr ((wr.alloc (Obj.cells #[Value.int .i64 0, Value.int .i64 0, Value.int .i64 0, Value.int .i64 0, Value.int .i64 0, Value.int .i64 0, Value.int .i64 0, Value.int .i64 0, Value.int .i64 0, Value.int .i64 0, Value.int .i64 0, Value.int .i64 0, Value.int .i64 0, Value.int .i64 0, Value.int .i64 0] 76)).drew.setCells wr.heap.size 0 cs) := (((Chg.refl _ wr).alloc _).drew).setCells (.inr (Nat.le_refl _)) _ _
        have hrw2 : RowsAt ((wr.alloc (Obj.cells #[Value.int .i64 0, Value.int .i64 0, Value.int .i64 0, Value.int .i64 0, Value.int .i64 0, Value.int .i64 0, Value.int .i64 0, Value.int .i64 0, Value.int .i64 0, Value.int .i64 0, Value.int .i64 0, Value.int .i64 0, Value.int .i64 0, Value.int .i64 0, Value.int .i64 0] 76)).drew.setCells wr.heap.size 0 cs) w.heap.size u3 (outTo T j) := HROWS.out.chg hch
        have hcg2 : Chg (fun _ => False) w ((wr.alloc (Obj.cells #[Value.int .i64 0, Value.int .i64 0, Value.int .i64 0, Value.int .i64 0, Value.int .i64 0, Value.int .i64 0, Value.int .i64 0, Value.int .i64 0, Value.int .i64 0, Value.int .i64 0, Value.int .i64 0, Value.int .i64 0, Value.int .i64 0, Value.int .i64 0, Value.int .i64 0] 76)).drew.setCells wr.heap.size 0 cs) := HCG.out.trans hch (fun _ x => x.elim)
        have hnbl : w.heap.size ≤ wr.heap.size := HCG.out.size
        have hvn : u3.ownBlock ≠ some wr.heap.size := fun e => by obtain ⟨xs, ho, _⟩ := HROWS.out; have := (ho.lt _ e).2; omega
        rename_i hheld
        clear hheld hth hr hne HNB HROWS HCG h1 hi hu hch
        generalize (wr.alloc (Obj.cells #[Value.int .i64 0, Value.int .i64 0, Value.int .i64 0, Value.int .i64 0, Value.int .i64 0, Value.int .i64 0, Value.int .i64 0, Value.int .i64 0, Value.int .i64 0, Value.int .i64 0, Value.int .i64 0, Value.int .i64 0, Value.int .i64 0, Value.int .i64 0, Value.int .i64 0] 76)).drew.setCells wr.heap.size 0 cs = W2 at hwb hrw2 hcg2 ⊢
        generalize wr.heap.size = nb at hwb hnbl hvn ⊢
        have HWB := Lib.hid hwb; have HRW2 := Lib.hid hrw2; have HCG2 := Lib.hid hcg2
        have HVN := Lib.hid hvn
        clear hwb hrw2 hcg2 hvn
        go_wp2_with (refine wpList_load_blk rfl 76 (.tmp 5) rfl nb rfl 76 _ _ HWB.out Try.underlying76 rfl HI76.out ?_)
        go_loopg [18, 6] 15 (fun gm iv lv wr => ∃ i : Nat, i ≤ 15 ∧ gm = 15 - i ∧ iv = .int .i64 i ∧ lv = .int .i64 ((longTo (rowT T j) i : Nat) : Int) ∧ wr = W2)
        case atStart => exact ⟨0, by omega, by omega, rfl, rfl, rfl⟩
        case round =>
          obtain ⟨i, hi, rfl, rfl, rfl, rfl⟩ := hrel
          by_cases hli : i < 15
          · have hel : cs[i]? = some (.int .i64 ((rowT T j).getD i 0)) := by rw [← HCS.out]; exact index_rowT HLT.out hlt hli
            obtain ⟨x, hx⟩ : ∃ x, (rowT T j).getD i 0 = x := ⟨_, rfl⟩
            rw [hx] at hel
            have HIX := Lib.hid (index_row cs i x hel HCL.out)
            clear hel
            by_cases hx0 : x = 0
            · have HST := Lib.hid (longTo_zero (rowT T j) i (by rw [hx]; exact hx0))
              subst hx0
              have hix := HIX.out
              obtain ⟨lg, hlg⟩ : ∃ lg, longTo (rowT T j) i = lg := ⟨_, rfl⟩
              rw [hlg] at HST ⊢
              clear hx hlg
              go_wp2_with fail
              go_roundg (15 - (i + 1))
              case measure => omega
              case rel => exact ⟨i + 1, by omega, rfl, by go_num, by rw [HST.out], rfl⟩
            · have HST := Lib.hid (longTo_succ (rowT T j) i (by rw [hx]; exact hx0))
              have hq : (x != 0) = true := by simpa using hx0
              have hix := HIX.out
              obtain ⟨lg, hlg⟩ : ∃ lg, longTo (rowT T j) i = lg := ⟨_, rfl⟩
              rw [hlg]
              clear hx hlg hx0
              go_wp2_with fail
              go_roundg (15 - (i + 1))
              case measure => omega
              case rel => exact ⟨i + 1, by omega, rfl, by go_num, by rw [HST.out]; go_num, rfl⟩
          · have hi15 : i = 15 := by omega
            subst hi15
            have hlgle := longTo_le (rowT T j) 15
            by_cases hz : longTo (rowT T j) 15 = 0
            · have HST := Lib.hid (outTo_stay hz)
              rw [hz]
              clear hz
              go_wp2_with fail
              go_roundg (15 - (j + 1))
              case measure => omega
              case rel => exact ⟨j + 1, by omega, rfl, by go_num, by rw [HST.out]; exact HRW2.out, HCG2.out⟩
            · have HST := Lib.hid (outTo_more hz)
              obtain ⟨X, hX⟩ : ∃ X, (rowT T j).take (longTo (rowT T j) 15) = X := ⟨_, rfl⟩
              have hXI : IntsAt wr nb 0 X := by
                have h := HWB.out
                rw [← HCS.out] at h
                rw [← hX]
                exact rowT_ints h _
              have hXl : longTo (rowT T j) 15 = X.length := by rw [← hX, List.length_take, rowT_len HLT.out hlt]; omega
              rw [hX] at HST
              rw [hXl] at hz hlgle ⊢
              have HXI := Lib.hid hXI
              have hq : ((X.length : Int) == 0) = false := by simpa using hz
              have hx1 : 1 ≤ X.length := by omega
              have hol := outTo_len T j
              clear hX hXl hz hXI
              go_wp2_with fail
              go_loopg [3] (j + 1 - (outTo T j).length) (fun gm v wr => ∃ m, (outTo T j).length + m ≤ j + 1 ∧ gm = j + 1 - ((outTo T j).length + m) ∧ RowsAt wr w.heap.size v (outTo T j ++ List.replicate m []) ∧ v.ownBlock ≠ some nb ∧ IntsAt wr nb 0 X ∧ nb < wr.heap.size ∧ Chg (fun _ => False) w wr)
              case atStart => exact ⟨0, by omega, by omega, by simpa using HRW2.out, HVN.out, HXI.out, HWB.out.lt, HCG2.out⟩
              case round =>
                clear HWB HRW2 HCG2 HVN HXI
                obtain ⟨m, hm, rfl, hrows, hvn, hxi, hnb, hcg⟩ := hrel
                obtain ⟨R, hR⟩ : ∃ R, outTo T j ++ List.replicate m [] = R := ⟨_, rfl⟩
                have hRl : R.length = (outTo T j).length + m := by rw [← hR]; simp
                rw [hR] at hrows
                obtain ⟨xs, hown, hxs⟩ := hrows
                obtain ⟨ao, cc, rfl⟩ := owns_shape hown
                have HR := Lib.hid hR; have HRL := Lib.hid hRl; have HXI := Lib.hid hxi; have HCG := Lib.hid hcg; have HVN := Lib.hid hvn
                have HROWS : Hid (RowsAt wr w.heap.size (.slice ao R.length cc) R) := Lib.hid ⟨xs, hown, hxs⟩
                by_cases hlm : (outTo T j).length + m ≤ j
                · have hd : decide (R.length ≤ j) = true := by rw [decide_eq_true_eq]; omega
                  have hR15 : R.length ≤ 15 := by omega
                  have hsz : w.heap.size ≤ wr.heap.size := hcg.size
                  have HNEW : Hid (∀ j u, [Value.slice none 0 0][j]? = some u → (wr.alloc (Obj.cells #[.slice none 0 0] 40)).cell? ((⟨wr.heap.size, 0, none⟩ : Addr).add j) = some u) := Lib.hid (fun j u hu => by
                    rw [add_plain, Nat.zero_add]
                    exact (Blk.new wr #[.slice none 0 0] 40).cell_some hu)
                  have HAC := Lib.hid ((Chg.refl (fun _ => False) wr).alloc (Obj.cells #[.slice none 0 0] 40))
                  have HOW := Lib.hid (hown.alloc (Obj.cells #[.slice none 0 0] 40))
                  have HXS : Hid (∀ i (h : i < R.length), ∃ x, xs[i]? = some x ∧ RowV (wr.alloc (Obj.cells #[.slice none 0 0] 40)) (Value.slice ao R.length cc).ownBlock w.heap.size x R[i]) := Lib.hid (fun i h => by
                    obtain ⟨x, hx, hr⟩ := hxs i h
                    exact ⟨x, hx, hr.chg (HAC.out.mono fun _ x => x.elim) (.inl rfl)⟩)
                  have hXI2 := hxi.chg HAC.out (fun x => x)
                  have HXI2 := Lib.hid hXI2
                  have hnb2 : nb < (wr.alloc (Obj.cells #[.slice none 0 0] 40)).heap.size := Nat.lt_of_lt_of_le hnb HAC.out.size
                  have HNB2 := Lib.hid hnb2
                  have HCA := Lib.hid (hcg.trans HAC.out (fun _ x => x.elim))
                  clear hR hRl hown hxs hxi hcg hvn HROWS HXI HCG hXI2 hnb2
                  go_wp2_with (at_builtin; refine wpList_append_two rfl (.tmp 33) (.tmp 34) 53 rfl w.heap.size 40 i0 (.slice none 0 0) 1 24 Try.underlying53 HI0.out HZ0.out HZ1.out HZ2.out rfl (by decide) _ R.length xs rfl HOW.out ⟨wr.heap.size, 0, none⟩ 1 1 [.slice none 0 0] rfl rfl HNEW.out (by intro u hu; simp at hu; subst hu; rfl) (by simp [maxLen]; omega) (by omega) (by simp; omega) ?_; intro v1 w3 hown1 hgrow1 hv1; have HOWN1 := Lib.hid hown1; have HGROW1 := Lib.hid hgrow1; have HV1 := Lib.hid hv1; clear hown1 hgrow1 hv1)
                  go_roundg (j + 1 - ((outTo T j).length + (m + 1)))
                  case measure => omega
                  case rel =>
                    have hgr := Chg.of_grownRow HGROW1.out
                    refine ⟨m + 1, by omega, rfl, ?_, ?_, HXI2.out.chg hgr (fun e => HVN.out e.symm), Nat.lt_of_lt_of_le HNB2.out hgr.size, HCA.out.trans hgr (fun k hk => .inr (HOW.out.lt k hk.symm).1)⟩
                    · have := RowsAt.more HOW.out HXS.out HOWN1.out HGROW1.out HV1.out
                      rw [← HR.out, List.append_assoc] at this
                      rw [List.replicate_succ']
                      exact this
                    · rcases HV1.out with h | ⟨g, hg, h⟩
                      · rw [h]; exact HVN.out
                      · rw [h]; intro e; cases e; have := HNB2.out; omega
                · have hd : decide (R.length ≤ j) = false := by rw [decide_eq_false_iff_not]; omega
                  have hRj : R.length = j + 1 := by omega
                  obtain ⟨ao', cc', hsh, hform⟩ := owns_form hown
                  cases hsh
                  obtain ⟨g, rfl, hg1, hg2, hg3⟩ := hform (by omega)
                  have HRJ := Lib.hid hRj
                  have hjr : j < R.length := by omega
                  have hng : nb ≠ g := fun e => HVN.out (by rw [e]; rfl)
                  have hsl := slice_row nb X.length hlgle hx1
                  clear hR hRl hown hxs hxi hcg hvn hg3 hRj hform
                  go_wp2_with fail
                  refine (clone_ints X nb 0 15 wr HXI.out hx1 (by omega)).mono ?_
                  rintro e w4 ⟨g4, c4, rfl, hg4, hg5, hI4, hc4⟩
                  have hrw4 := HROWS.out.chg hc4
                  obtain ⟨xs4, hown4, hxs4⟩ := hrw4
                  have hj0 := hown4.cellAt j (by omega)
                  have hjf := hown4.frozenAt j
                  obtain ⟨x4, hx4, _⟩ := hxs4 j (by omega)
                  rw [hx4] at hj0
                  have hng4 : g4 ≠ g := by omega
                  have HP := Lib.hid (RowsAt.put (cap := c4) ⟨xs4, hown4, hxs4⟩ hjr hI4 (by have := HCG.out.size; omega) hg5 hng4)
                  have HC4 := Lib.hid (HCG.out.trans hc4 (fun _ x => x.elim))
                  clear hown4 hxs4 hI4 hc4 hx4 HXI
                  go_wp2_with fail
                  go_roundg (15 - (j + 1))
                  case measure => omega
                  case rel =>
                    refine ⟨j + 1, by omega, rfl, by go_num, ?_, HC4.out.setCell (.inr hg1) _⟩
                    rw [HST.out]
                    have hh := HP.out
                    have hRR : R.set j X = outTo T j ++ List.replicate (j - (outTo T j).length) [] ++ [X] := by
                      have hm2 : m = (j - (outTo T j).length) + 1 := by have := HRL.out; have := HRJ.out; omega
                      rw [← HR.out, hm2, List.replicate_succ', ← List.append_assoc]
                      have := set_last (outTo T j ++ List.replicate (j - (outTo T j).length) []) [] X
                      rw [show (outTo T j ++ List.replicate (j - (outTo T j).length) ([] : List Int)).length = j by simp; omega] at this
                      exact this
                    rw [← hRR]
                    exact hh
    · have hj15 : j = 15 := by omega
      subst hj15
      go_wp2_with fail
      go_ret
      exact ⟨_, rfl, HROWS.out, HCG.out⟩
end Go.Proofs.Ytmmpdfcnenljhaa
