/- The sum of two polynomials, walked. Its conditions are its premises. -/
import Derived.Test.YtmmpdfcnenljhaaF8
import Derived.Laws.Tables
set_option linter.unusedVariables false
namespace Go
section
variable {P : Program} {w : World} {ops : Array Oper} {rest : List Oper} {o : Oper} {a : Act} {Q : Exit → Act → World → Prop}
theorem Blk.setRow {w : World} {B : Nat} {e : TypeId} {old : List Value} (h : Blk w B e old) (cs : Array Value) : Blk (w.setRow B cs) B e cs.toList := by
  unfold Blk at *
  have := setRow_heap w B old.toArray cs e (0, 0) h
  simpa using this
/-- A whole array is read. -/
theorem wpList_load_blk (hgd : o.guard = none) (ty : TypeId) (x : Operand) (ho : o.op = .load ty x)
    (g : Nat) (hx : a.eval x = .pointer (some ⟨g, 0, none⟩)) (t : TypeId) (vals : List Value) (d : TypeDesc) (hg : Blk w g t vals)
    (hu : P.underlying ty = some d) (hd : (match d with | .struct _ | .array _ _ => true | _ => false) = true) (hi : (P.info? ty).map (·.size) = some vals.length)
    (h : wpList P ops Q rest (a.put o.dst (.agg vals.toArray)) w) : wpList P ops Q (o :: rest) a w :=
  wpList_load_row hgd ty x ho g hx t vals.toArray (0, 0) d hg hu hd (by simpa using hi) h

/-- A whole array is stored, the world behind it a variable. -/
theorem wpList_store_blk (hgd : o.guard = none) (ty : TypeId) (x y : Operand) (ho : o.op = .store ty x y)
    (g : Nat) (cells : List Value) (hx : a.eval x = .pointer (some ⟨g, 0, none⟩)) (hy : a.eval y = .agg cells.toArray)
    (t : TypeId) (old : List Value) (hg : Blk w g t old) (hi : (P.info? ty).map (·.size) = some cells.length)
    (hold : old.length = cells.length) (h1 : ∀ v ∈ cells, v.oneCell' = true)
    (h : ∀ w', Blk w' g t cells → Chg (fun k => k = g) w w' → wpList P ops Q rest (a.put o.dst undef) w') : wpList P ops Q (o :: rest) a w :=
  wpList_store_row hgd ty x y ho g cells.toArray hx hy t old.toArray hg (by simpa using hi) (by simpa using hold) (by simpa using h1)
    (h _ (hg.setRow _) ((Chg.refl (fun k => k = g) w).setRow (.inl rfl) _))
end
end Go
namespace Go.Proofs.Ytmmpdfcnenljhaa
open Go.RowKit

/-- The sum of two polynomials, in its first k places. -/
def plusTo (T U : List Int) (k : Nat) : List Int := (List.range 225).map fun i => if i < k then T.getD i 0 + U.getD i 0 else T.getD i 0

theorem plusTo_len (T U : List Int) (k : Nat) : (plusTo T U k).length = 225 := by simp [plusTo]
theorem plusTo_get (T U : List Int) (k i : Nat) : (plusTo T U k)[i]? = if i < 225 then some (if i < k then T.getD i 0 + U.getD i 0 else T.getD i 0) else none := by
  unfold plusTo
  rw [List.getElem?_map]
  by_cases h : i < 225
  · rw [if_pos h, List.getElem?_range h]; rfl
  · rw [if_neg h, List.getElem?_eq_none (by simp; omega)]; rfl
theorem plusTo_zero (T U : List Int) (hT : T.length = 225) : plusTo T U 0 = T := by
  apply List.ext_getElem?
  intro i
  rw [plusTo_get]
  by_cases h : i < 225
  · rw [if_pos h, if_neg (by omega), List.getD_eq_getElem?_getD, List.getElem?_eq_getElem (by omega)]; rfl
  · rw [if_neg h, List.getElem?_eq_none (by omega)]
theorem plusTo_step (T U : List Int) (k : Nat) : (plusTo T U k).set k (T.getD k 0 + U.getD k 0) = plusTo T U (k + 1) := by
  apply List.ext_getElem?
  intro i
  rw [List.getElem?_set, plusTo_get, plusTo_get, plusTo_len]
  by_cases h : i < 225
  · rw [if_pos h, if_pos h]
    by_cases h2 : k = i
    · subst h2
      rw [if_pos rfl, if_pos h, if_pos (by omega)]
    · rw [if_neg h2]
      by_cases h3 : i < k
      · rw [if_pos h3, if_pos (by omega)]
      · rw [if_neg h3, if_neg (by omega)]
  · rw [if_neg h, if_neg h]
    by_cases h2 : k = i
    · subst h2; rw [if_pos rfl, if_neg h]
    · rw [if_neg h2]

theorem index_row (cs : List Value) (i : Nat) (y : Int) (hc : cs[i]? = some (.int .i64 y)) (hl : cs.length = 15) (w : World) :
    (Instr.index 76 (.agg cs.toArray) (.int .i64 (i : Int))).run Try.prog w = .ok (.int .i64 y) w := by
  have hi : i < 15 := by rw [← hl]; exact (List.getElem?_eq_some_iff.1 hc).1
  obtain ⟨i0, hi0, hz0, hz1, hz2⟩ := info_parts info3
  simp [Instr.index, run_underlying (P := Try.prog) Try.underlying76, asIntOf, hi, sizeOf, typeInfo, hi0, hz1]
  simp [part, isAgg, run_underlying (P := Try.prog) Try.underlying3, sizeOf, typeInfo, hi0, hz1, hc]

def Small (T : List Int) : Prop := ∀ i, 0 ≤ T.getD i 0 ∧ T.getD i 0 ≤ 1000000

set_option maxRecDepth 100000 in
set_option maxHeartbeats 1000000 in
theorem plus_any (T U : List Int) (p q : Nat) (w : World) (hT : PolyAt w p T) (hU : PolyAt w q U) (hsT : Small T) (hsU : Small U) :
    Calls Try.prog 51 #[.pointer (some ⟨p, 0, none⟩), .pointer (some ⟨q, 0, none⟩)] w fun e w' => ∃ p', e = .returned (.pointer (some ⟨p', 0, none⟩)) ∧ PolyAt w' p' (plusTo T U 225) ∧ Chg (fun _ => False) w w' := by
  have hql := hU.1.lt
  obtain ⟨pb, hpb⟩ : ∃ pb, w.heap.size = pb := ⟨_, rfl⟩
  have hZ := zero_poly w
  rw [hpb] at hZ
  have HC0 := Lib.hid ((Chg.refl (fun _ => False) w).alloc (Obj.cells Try.zeroCells78 78))
  have HZ := Lib.hid hZ
  have HT := Lib.hid hT; have HU := Lib.hid hU
  have HT0 := Lib.hid (hT.1.alloc (Obj.cells Try.zeroCells78 78))
  have HLT := Lib.hid hT.2; have HLU := Lib.hid hU.2; have HPB := Lib.hid hpb
  have HST := Lib.hid hsT; have HSU := Lib.hid hsU
  have HI78 : Hid ((Try.prog.info? 78).map (·.size) = some (T.map (Value.int .i64)).length) := Lib.hid (by
    rw [List.length_map, hT.2]
    exact (show (Try.prog.info? 78).map (·.size) = some 225 by kernel_rfl))
  have HO78 : Hid (((List.replicate 225 (0 : Int)).map (Value.int .i64)).length = (T.map (Value.int .i64)).length) := Lib.hid (by rw [List.length_map, List.length_map, hT.2, List.length_replicate])
  have H178 : Hid (∀ v ∈ T.map (Value.int .i64), v.oneCell' = true) := Lib.hid (by intro v hv; obtain ⟨x, _, rfl⟩ := List.mem_map.1 hv; rfl)
  clear hT hU hZ hsT hsU
  go_enter Try.func51, Try.ntmps51
  go_wp2_with (first | (refine wpList_load_blk rfl 78 (.tmp 11) rfl p rfl 78 _ _ HT.out.1 Try.underlying78 rfl HI78.out ?_) | (refine wpList_store_blk rfl 78 (.tmp 5) (.tmp 12) rfl pb _ rfl rfl 78 _ HZ.out HI78.out HO78.out H178.out ?_; intro W1 hb1 hc1))
  have hb2 : Blk W1 pb 78 ((plusTo T U 0).map (Value.int .i64)) := by rw [plusTo_zero T U HLT.out]; exact hb1
  have hc2 := HC0.out.trans hc1 (fun k hk => .inr (by omega))
  have HB0 := Lib.hid hb2; have HC1 := Lib.hid hc2
  clear hb1 hc1 hb2 hc2 hpb HC0 HZ HT HT0 HI78 HO78 H178
  go_loopg [15] 15 (fun gm iv wr => ∃ j : Nat, j ≤ 15 ∧ gm = 15 - j ∧ iv = .int .i64 j ∧ Blk wr pb 78 ((plusTo T U (j * 15)).map (Value.int .i64)) ∧ Chg (fun _ => False) w wr)
  case atStart => exact ⟨0, by omega, by omega, rfl, by simpa using HB0.out, HC1.out⟩
  case round =>
    obtain ⟨j, hj, rfl, rfl, hb, hcg⟩ := hrel
    have HB := Lib.hid hb; have HCG := Lib.hid hcg
    clear hb hcg
    by_cases hlt : j < 15
    · obtain ⟨cs, hcs⟩ : ∃ cs, ((U.drop (j * 15)).take 15).map (Value.int .i64) = cs := ⟨_, rfl⟩
      have HEL : Hid (∀ i, i < 15 → cs[i]? = some (.int .i64 (U.getD (j * 15 + i) 0))) := Lib.hid (fun i hi => by
        have := HLU.out
        subst hcs
        rw [List.getElem?_map, List.getElem?_take, if_pos hi, List.getElem?_drop, List.getD_eq_getElem?_getD, List.getElem?_eq_getElem (by omega)]
        rfl)
      have hr : wr.rangeAt q (j * 15) cs := fun k v hk => by
        subst hcs
        refine HCG.out.cell_some (poly_cell HU.out ?_) (fun x => x)
        rw [List.map_take, List.getElem?_take] at hk
        split at hk
        · rwa [List.map_drop, List.getElem?_drop] at hk
        · cases hk
      have hu : Try.prog.underlying 76 = some (.array 15 3) := Try.underlying76
      have hcl : cs.length = 15 := by subst hcs; have := HLU.out; simp; omega
      have hi : (Try.prog.info? 76).map (·.size) = some cs.length := by
        rw [hcl]
        exact (show (Try.prog.info? 76).map (·.size) = some 15 by kernel_rfl)
      have HI76 := Lib.hid hi
      have h1 : ∀ v ∈ cs, v.oneCell' = true := by subst hcs; intro v hv; obtain ⟨x, _, rfl⟩ := List.mem_map.1 hv; rfl
      have hnb := Blk.new wr #[Value.int .i64 0, Value.int .i64 0, Value.int .i64 0, Value.int .i64 0, Value.int .i64 0, Value.int .i64 0, Value.int .i64 0, Value.int .i64 0, Value.int .i64 0, Value.int .i64 0, Value.int .i64 0, Value.int .i64 0, Value.int .i64 0, Value.int .i64 0, Value.int .i64 0] 76
      have hth : (wr.alloc (Obj.cells #[Value.int .i64 0, Value.int .i64 0, Value.int .i64 0, Value.int .i64 0, Value.int .i64 0, Value.int .i64 0, Value.int .i64 0, Value.int .i64 0, Value.int .i64 0, Value.int .i64 0, Value.int .i64 0, Value.int .i64 0, Value.int .i64 0, Value.int .i64 0, Value.int .i64 0] 76)).drew.there wr.heap.size 0 cs.length := hnb.drew.there 0 _ (by rw [hcl]; simp)
      have hne : q ≠ wr.heap.size := by have := HCG.out.size; omega
      have HCL := Lib.hid hcl; have HNB := Lib.hid hnb
      clear hcs hcl hnb
      go_wp2_with fail
      go_region_held3 (fun w' => w'.rangeAt q (j * 15) cs) (first | assumption | (apply World.rangeAt_alloc; assumption) | (exact World.rangeAt_setCells_apart ((World.rangeAt_drew _ _ _ _).2 (World.rangeAt_alloc hr _)) _ _ _ (.inl hne))) (fail)
      all_goals
        have hwb : Blk ((wr.alloc (Obj.cells #[Value.int .i64 0, Value.int .i64 0, Value.int .i64 0, Value.int .i64 0, Value.int .i64 0, Value.int .i64 0, Value.int .i64 0, Value.int .i64 0, Value.int .i64 0, Value.int .i64 0, Value.int .i64 0, Value.int .i64 0, Value.int .i64 0, Value.int .i64 0, Value.int .i64 0] 76)).drew.setCells wr.heap.size 0 cs) wr.heap.size 76 cs := by
          have := Blk.setCells cs 0 _ _ (by rw [HCL.out]; simp) HNB.out.drew
          rw [HCL.out] at this
          simpa using this
        have hpb2 : Blk ((wr.alloc (Obj.cells #[Value.int .i64 0, Value.int .i64 0, Value.int .i64 0, Value.int .i64 0, Value.int .i64 0, Value.int .i64 0, Value.int .i64 0, Value.int .i64 0, Value.int .i64 0, Value.int .i64 0, Value.int .i64 0, Value.int .i64 0, Value.int .i64 0, Value.int .i64 0, Value.int .i64 0] 76)).drew.setCells wr.heap.size 0 cs) pb 78 ((plusTo T U (j * 15)).map (Value.int .i64)) := Blk.setCellsOther (by have := HB.out.lt; omega) _ _ _ (HB.out.alloc _).drew
        have hcg2 : Chg (fun _ => False) w ((wr.alloc (Obj.cells #[Value.int .i64 0, Value.int .i64 0, Value.int .i64 0, Value.int .i64 0, Value.int .i64 0, Value.int .i64 0, Value.int .i64 0, Value.int .i64 0, Value.int .i64 0, Value.int .i64 0, Value.int .i64 0, Value.int .i64 0, Value.int .i64 0, Value.int .i64 0, Value.int .i64 0] 76)).drew.setCells wr.heap.size 0 cs) := (HCG.out.alloc _).drew.setCells (.inr HCG.out.size) _ _
        rename_i hheld
        clear hheld hth hr hne HNB HB HCG h1 hi hu
        generalize ((wr.alloc (Obj.cells #[Value.int .i64 0, Value.int .i64 0, Value.int .i64 0, Value.int .i64 0, Value.int .i64 0, Value.int .i64 0, Value.int .i64 0, Value.int .i64 0, Value.int .i64 0, Value.int .i64 0, Value.int .i64 0, Value.int .i64 0, Value.int .i64 0, Value.int .i64 0, Value.int .i64 0] 76)).drew.setCells wr.heap.size 0 cs) = W2 at hwb hpb2 hcg2 ⊢
        generalize wr.heap.size = nb at hwb ⊢
        have HWB := Lib.hid hwb; have HPB2 := Lib.hid hpb2; have HCG2 := Lib.hid hcg2
        clear hwb hpb2 hcg2
        go_wp2_with (refine wpList_load_blk rfl 76 (.tmp 7) rfl nb rfl 76 _ _ HWB.out Try.underlying76 rfl HI76.out ?_)
        go_loopg [22] 15 (fun gm iv wr => ∃ i : Nat, i ≤ 15 ∧ gm = 15 - i ∧ iv = .int .i64 i ∧ Blk wr pb 78 ((plusTo T U (j * 15 + i)).map (Value.int .i64)) ∧ Chg (fun _ => False) w wr)
        case atStart => exact ⟨0, by omega, by omega, rfl, HPB2.out, HCG2.out⟩
        case round =>
          clear HWB HPB2 HCG2
          obtain ⟨i, hi, rfl, rfl, hb, hcg⟩ := hrel
          have HB := Lib.hid hb; have HCG := Lib.hid hcg
          clear hb hcg
          by_cases hli : i < 15
          · have hel : cs[i]? = some (.int .i64 (U.getD (j * 15 + i) 0)) := HEL.out i hli
            have hcell := HB.out.int_at (i := j * 15 + i) (by rw [plusTo_len]; omega)
            have hfr := HB.out.free (j * 15 + i)
            rw [show hr (plusTo T U (j * 15 + i)) (j * 15 + i) = T.getD (j * 15 + i) 0 by
              unfold hr
              rw [List.getD_eq_getElem?_getD, plusTo_get, if_pos (by omega), if_neg (by omega)]; rfl] at hcell
            have b1 := HST.out (j * 15 + i)
            have b2 := HSU.out (j * 15 + i)
            have HSTEP := Lib.hid (plusTo_step T U (j * 15 + i))
            generalize hx : T.getD (j * 15 + i) 0 = x at hcell b1 HSTEP
            generalize hy : U.getD (j * 15 + i) 0 = y at hel b2 HSTEP
            clear hx hy
            have hix := index_row cs i y hel HCL.out
            go_wp2_with fail
            have HB2 := Lib.hid (HSTEP.out ▸ HB.out.int_set (j * 15 + i) (x + y))
            have HCG2 := Lib.hid (HCG.out.setCell (a := ⟨pb, j * 15 + i, none⟩) (.inr (by have := HPB.out; show _ ≤ pb; omega)) (.int .i64 (x + y)))
            clear HB HCG hix hel
            go_region
            all_goals
              go_wp2_with fail
              go_roundg (15 - (i + 1))
              case measure => omega
              case rel => exact ⟨i + 1, by omega, rfl, by go_num, HB2.out.drew, HCG2.out.drew⟩
          · have hi15 : i = 15 := by omega
            subst hi15
            have e : j * 15 + 15 = (j + 1) * 15 := by omega
            rw [e] at HB
            clear e
            go_wp2_with fail
            go_roundg (15 - (j + 1))
            case measure => omega
            case rel => exact ⟨j + 1, by omega, rfl, by go_num, HB.out, HCG.out⟩
    · have hj15 : j = 15 := by omega
      subst hj15
      go_wp2_with fail
      go_ret
      exact ⟨pb, rfl, ⟨HB.out, plusTo_len T U _⟩, HCG.out⟩
end Go.Proofs.Ytmmpdfcnenljhaa
