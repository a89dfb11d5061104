/- The polynomials: times x, walked. Its conditions are its premises. -/
import Derived.Test.YtmmpdfcnenljhaaF7
import Derived.Deep.MidRow
import Derived.Deep.RegionHeld3
set_option linter.unusedVariables false
namespace Go
theorem Blk.setCells {b : Nat} {e : TypeId} : ∀ (cs : List Value) (o : Nat) (w : World) (old : List Value), o + cs.length ≤ old.length → Blk w b e old → Blk (w.setCells b o cs) b e (old.take o ++ cs ++ old.drop (o + cs.length))
  | [], o, w, old, h, hb => by simpa [World.setCells] using hb
  | v :: r, o, w, old, h, hb => by
    have := Blk.setCells r (o + 1) _ (old.set o v) (by simp at h ⊢; omega) (hb.set o v)
    simp only [List.length_cons] at h
    rw [World.setCells]
    have he : (old.set o v).take (o + 1) ++ r ++ (old.set o v).drop (o + 1 + r.length) = old.take o ++ (v :: r) ++ old.drop (o + (v :: r).length) := by
      have e1 : (old.set o v).take (o + 1) = old.take o ++ [v] := by
        apply List.ext_getElem?
        intro i
        rw [List.getElem?_take, List.getElem?_set, List.getElem?_append, List.getElem?_take]
        simp only [List.length_take]
        by_cases h1 : i < o
        · rw [if_pos (by omega), if_neg (by omega), if_pos (by omega), if_pos (by omega)]
        · by_cases h2 : i = o
          · subst h2
            rw [if_pos (by omega), if_pos rfl, if_pos (by omega), if_neg (by omega), Nat.min_eq_left (by omega)]; simp
          · rw [if_neg (by omega), if_neg (by omega)]; symm; apply List.getElem?_eq_none; simp; omega
      have e2 : (old.set o v).drop (o + 1 + r.length) = old.drop (o + 1 + r.length) := List.drop_set_of_lt (by omega)
      rw [e1, e2]
      simp [Nat.add_comm, Nat.add_left_comm]
    rw [← he]
    exact this
theorem Blk.setCellsOther {b B : Nat} {e : TypeId} {vals : List Value} (hne : b ≠ B) : ∀ (cs : List Value) (o : Nat) (w : World), Blk w B e vals → Blk (w.setCells b o cs) B e vals
  | [], o, w, h => h
  | v :: r, o, w, h => by
    rw [World.setCells]
    exact Blk.setCellsOther hne r (o + 1) _ (h.setOther hne v)
theorem Blk.there {w : World} {b : Nat} {e : TypeId} {vals : List Value} (h : Blk w b e vals) (o n : Nat) (hn : o + n ≤ vals.length) : w.there b o n := fun j hj => by
  refine ⟨?_, h.free _⟩
  rw [h.cell, List.getElem?_eq_getElem (by omega)]
  rfl
end Go
namespace Go.Proofs.Ytmmpdfcnenljhaa
open Go.RowKit

/-- The rows of a polynomial, the first j of them moved by one. -/
def xrows (T : List Int) (j : Nat) : List Int := (List.range 225).map fun i => if i / 15 < j ∧ i % 15 ≠ 0 then T.getD (i - 1) 0 else 0

theorem xrows_len (T : List Int) (j : Nat) : (xrows T j).length = 225 := by simp [xrows]

theorem xrows_get (T : List Int) (j i : Nat) : (xrows T j)[i]? = if i < 225 then some (if i / 15 < j ∧ i % 15 ≠ 0 then T.getD (i - 1) 0 else 0) else none := by
  unfold xrows
  rw [List.getElem?_map]
  by_cases h : i < 225
  · rw [if_pos h, List.getElem?_range h]; rfl
  · rw [if_neg h, List.getElem?_eq_none (by simp; omega)]; rfl

theorem xrows_zero (T : List Int) : List.replicate 225 (0 : Int) = xrows T 0 := by
  apply List.ext_getElem?
  intro i
  rw [xrows_get, List.getElem?_replicate]
  split
  · rw [if_neg (by omega)]
  · rfl

theorem xrows_step (T : List Int) (j : Nat) (hT : T.length = 225) (hj : j < 15) : (xrows T j).take (j * 15 + 1) ++ (T.drop (j * 15)).take 14 ++ (xrows T j).drop (j * 15 + 1 + 14) = xrows T (j + 1) := by
  have hl1 : ((xrows T j).take (j * 15 + 1)).length = j * 15 + 1 := by simp [xrows_len]; omega
  have hl2 : ((T.drop (j * 15)).take 14).length = 14 := by simp; omega
  apply List.ext_getElem?
  intro i
  rw [List.getElem?_append, List.length_append, hl1, hl2, List.getElem?_append, hl1, xrows_get]
  by_cases a1 : i < j * 15 + 1 + 14
  · have h225 : i < 225 := by omega
    rw [if_pos a1, if_pos h225]
    by_cases a2 : i < j * 15 + 1
    · rw [if_pos a2, List.getElem?_take, if_pos a2, xrows_get, if_pos h225]
      by_cases a3 : i < j * 15
      · by_cases a4 : i % 15 = 0
        · rw [if_neg (fun h => h.2 a4), if_neg (fun h => h.2 a4)]
        · rw [if_pos (show i / 15 < j ∧ i % 15 ≠ 0 from ⟨by omega, a4⟩), if_pos (show i / 15 < j + 1 ∧ i % 15 ≠ 0 from ⟨by omega, a4⟩)]
      · have a4 : i % 15 = 0 := by omega
        rw [if_neg (fun h => h.2 a4), if_neg (fun h => h.2 a4)]
    · rw [if_neg a2, List.getElem?_take, if_pos (show i - (j * 15 + 1) < 14 by omega), List.getElem?_drop, if_pos (show i / 15 < j + 1 ∧ i % 15 ≠ 0 from ⟨by omega, by omega⟩), List.getD_eq_getElem?_getD,
        show j * 15 + (i - (j * 15 + 1)) = i - 1 by omega, List.getElem?_eq_getElem (show i - 1 < T.length by omega)]
      rfl
  · rw [if_neg a1, List.getElem?_drop, xrows_get, show j * 15 + 1 + 14 + (i - (j * 15 + 1 + 14)) = i by omega]
    by_cases h225 : i < 225
    · rw [if_pos h225, if_pos h225, if_neg (show ¬(i / 15 < j ∧ i % 15 ≠ 0) by omega), if_neg (show ¬(i / 15 < j + 1 ∧ i % 15 ≠ 0) by omega)]
    · rw [if_neg h225, if_neg h225]

set_option maxRecDepth 100000 in
set_option maxHeartbeats 1000000 in
theorem timesX_any (T : List Int) (p : Nat) (w : World) (hT : PolyAt w p T) :
    Calls Try.prog 50 #[.pointer (some ⟨p, 0, none⟩)] w fun e w' => ∃ p', e = .returned (.pointer (some ⟨p', 0, none⟩)) ∧ PolyAt w' p' (xrows T 15) ∧ Chg (fun _ => False) w w' := by
  have hpl := hT.1.lt
  have hlen := hT.2
  obtain ⟨pb, hpb⟩ : ∃ pb, w.heap.size = pb := ⟨_, rfl⟩
  have hZ := zero_poly w
  rw [hpb] at hZ
  have HC0 := Lib.hid ((Chg.refl (fun _ => False) w).alloc (Obj.cells Try.zeroCells78 78))
  have HZ := Lib.hid hZ
  have HT := Lib.hid hT
  have HL := Lib.hid hlen; have HPB := Lib.hid hpb
  clear hT hZ hlen
  go_enter Try.func50, Try.ntmps50
  go_wp2_with fail
  clear hpb
  generalize w.alloc (Obj.cells Try.zeroCells78 78) = W1 at HC0 HZ ⊢
  go_loopg [8] 15 (fun gm iv wr => ∃ j : Nat, j ≤ 15 ∧ gm = 15 - j ∧ iv = .int .i64 j ∧ Blk wr pb 78 ((xrows T j).map (Value.int .i64)) ∧ Chg (fun _ => False) w wr)
  case atStart => exact ⟨0, by omega, by omega, rfl, by rw [← xrows_zero]; exact HZ.out, HC0.out⟩
  case round =>
    obtain ⟨j, hj, rfl, rfl, hb, hcg⟩ := hrel
    have HB := Lib.hid hb; have HCG := Lib.hid hcg
    clear hb hcg
    by_cases hlt : j < 15
    · obtain ⟨cs, hcs⟩ : ∃ cs, ((T.drop (j * 15)).take 15).map (Value.int .i64) = cs := ⟨_, rfl⟩
      have HCS := Lib.hid hcs
      have hr : wr.rangeAt p (j * 15) cs := fun k v hk => by
        subst hcs
        refine HCG.out.cell_some (poly_cell HT.out ?_) (fun x => x)
        rw [List.map_take, List.getElem?_take] at hk
        split at hk
        · rwa [List.map_drop, List.getElem?_drop] at hk
        · cases hk
      have hu : Try.prog.underlying 76 = some (.array 15 3) := Try.underlying76
      have hcl : cs.length = 15 := by subst hcs; have := HL.out; simp; omega
      have hi : (Try.prog.info? 76).map (·.size) = some cs.length := by
        rw [hcl]
        exact (show (Try.prog.info? 76).map (·.size) = some 15 by kernel_rfl)
      have h1 : ∀ v ∈ cs, v.oneCell' = true := by subst hcs; intro v hv; obtain ⟨x, _, rfl⟩ := List.mem_map.1 hv; rfl
      have hnb := Blk.new wr #[Value.int .i64 0, Value.int .i64 0, Value.int .i64 0, Value.int .i64 0, Value.int .i64 0, Value.int .i64 0, Value.int .i64 0, Value.int .i64 0, Value.int .i64 0, Value.int .i64 0, Value.int .i64 0, Value.int .i64 0, Value.int .i64 0, Value.int .i64 0, Value.int .i64 0] 76
      have hth : (wr.alloc (Obj.cells #[Value.int .i64 0, Value.int .i64 0, Value.int .i64 0, Value.int .i64 0, Value.int .i64 0, Value.int .i64 0, Value.int .i64 0, Value.int .i64 0, Value.int .i64 0, Value.int .i64 0, Value.int .i64 0, Value.int .i64 0, Value.int .i64 0, Value.int .i64 0, Value.int .i64 0] 76)).drew.there wr.heap.size 0 cs.length := hnb.drew.there 0 _ (by rw [hcl]; simp)
      have hne : p ≠ wr.heap.size := by have := HCG.out.size; omega
      have HCL := Lib.hid hcl; have HNB := Lib.hid hnb
      clear hcs hcl hnb
      go_wp2_with fail
      go_region_held3 (fun w' => w'.rangeAt p (j * 15) cs) (first | assumption | (apply World.rangeAt_alloc; assumption) | (exact World.rangeAt_setCells_apart ((World.rangeAt_drew _ _ _ _).2 (World.rangeAt_alloc hr _)) _ _ _ (.inl hne))) (fail)
      all_goals
        have hwb : Blk ((wr.alloc (Obj.cells #[Value.int .i64 0, Value.int .i64 0, Value.int .i64 0, Value.int .i64 0, Value.int .i64 0, Value.int .i64 0, Value.int .i64 0, Value.int .i64 0, Value.int .i64 0, Value.int .i64 0, Value.int .i64 0, Value.int .i64 0, Value.int .i64 0, Value.int .i64 0, Value.int .i64 0] 76)).drew.setCells wr.heap.size 0 cs) wr.heap.size 76 cs := by
          have := Blk.setCells cs 0 _ _ (by rw [HCL.out]; simp) HNB.out.drew
          rw [HCL.out] at this
          simpa using this
        have hpb2 : Blk ((wr.alloc (Obj.cells #[Value.int .i64 0, Value.int .i64 0, Value.int .i64 0, Value.int .i64 0, Value.int .i64 0, Value.int .i64 0, Value.int .i64 0, Value.int .i64 0, Value.int .i64 0, Value.int .i64 0, Value.int .i64 0, Value.int .i64 0, Value.int .i64 0, Value.int .i64 0, Value.int .i64 0] 76)).drew.setCells wr.heap.size 0 cs) pb 78 ((xrows T j).map (Value.int .i64)) := Blk.setCellsOther (by have := HB.out.lt; omega) _ _ _ (HB.out.alloc _).drew
        have hcg2 : Chg (fun _ => False) w ((wr.alloc (Obj.cells #[Value.int .i64 0, Value.int .i64 0, Value.int .i64 0, Value.int .i64 0, Value.int .i64 0, Value.int .i64 0, Value.int .i64 0, Value.int .i64 0, Value.int .i64 0, Value.int .i64 0, Value.int .i64 0, Value.int .i64 0, Value.int .i64 0, Value.int .i64 0, Value.int .i64 0] 76)).drew.setCells wr.heap.size 0 cs) := (HCG.out.alloc _).drew.setCells (.inr HCG.out.size) _ _
        clear hth hr hne HNB HB HCG
        generalize ((wr.alloc (Obj.cells #[Value.int .i64 0, Value.int .i64 0, Value.int .i64 0, Value.int .i64 0, Value.int .i64 0, Value.int .i64 0, Value.int .i64 0, Value.int .i64 0, Value.int .i64 0, Value.int .i64 0, Value.int .i64 0, Value.int .i64 0, Value.int .i64 0, Value.int .i64 0, Value.int .i64 0] 76)).drew.setCells wr.heap.size 0 cs) = W2 at hwb hpb2 hcg2 ⊢
        generalize wr.heap.size = nb at hwb ⊢
        have HWB := Lib.hid hwb; have HPB2 := Lib.hid hpb2.drew; have HCG2 := Lib.hid hcg2.drew
        clear hwb hpb2 hcg2
        have HN : Hid ((cs.take 14).length = Nat.min 15 14 * 1) := Lib.hid (by have := HCL.out; simp; omega)
        have HSRC : Hid (∀ k v, (cs.take 14)[k]? = some v → W2.drew.cell? ((⟨nb, 0, none⟩ : Addr).add k) = some v) := Lib.hid (fun k v hk => by
          rw [add_plain, Nat.zero_add]
          rw [List.getElem?_take] at hk
          split at hk
          · exact HWB.out.drew.cell_some hk
          · cases hk)
        have HONE : Hid (∀ v ∈ cs.take 14, v.oneCell' = true) := Lib.hid (fun v hv => h1 v (List.mem_of_mem_take hv))
        clear h1 hi
        go_wp2_with fail
        go_region_law (refine step_copy_rows rfl (.tmp 16) (.tmp 17) 40 40 rfl 3 1 Try.underlying40 (by kernel_rfl) pb (j * 15 + 1) ⟨nb, 0, none⟩ 14 14 15 15 (by simp [Act.eval, Act.put]) (by simp [Act.eval, Act.put]) _ 78 HPB2.out (cs.take 14) HN.out HSRC.out (by rw [HN.out]; simp [xrows_len]; omega) HONE.out ?_; intro w3 hb3 hc3)
        all_goals
          have hb4 : Blk w3 pb 78 ((xrows T (j + 1)).map (Value.int .i64)) := by
            have h14 : (cs.take 14).length = 14 := by have := HCL.out; simp; omega
            have h15 : cs.take 14 = ((T.drop (j * 15)).take 14).map (Value.int .i64) := by rw [← HCS.out, List.map_take, List.take_take, List.map_take, Nat.min_eq_left (by decide)]
            rw [h14, h15] at hb3
            rw [← xrows_step T j HL.out hlt, List.map_append, List.map_append]
            simpa only [List.map_take, List.map_drop] using hb3
          have hcg4 := HCG2.out.trans hc3 (fun k hk => .inr (by have := HPB.out; omega))
          have HB4 := Lib.hid hb4; have HCG4 := Lib.hid hcg4
          clear hb3 hc3 hb4 hcg4 HPB2 HCG2 HSRC HWB HN HONE HCS
          go_wp2_with fail
          go_roundg (15 - (j + 1))
          case measure => omega
          case rel => exact ⟨j + 1, by omega, rfl, by go_num, HB4.out, HCG4.out⟩
    · have hj15 : j = 15 := by omega
      subst hj15
      go_wp2_with fail
      go_ret
      exact ⟨pb, rfl, ⟨HB.out, xrows_len T 15⟩, HCG.out⟩
end Go.Proofs.Ytmmpdfcnenljhaa
