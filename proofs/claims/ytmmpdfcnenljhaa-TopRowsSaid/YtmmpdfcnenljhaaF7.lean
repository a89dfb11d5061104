/- The polynomials: times x, times y, walked. Their conditions are their premises. -/
import Derived.Test.YtmmpdfcnenljhaaF6
import Derived.Laws.CopyOwn
set_option linter.unusedVariables false
namespace Go
section
variable {P : Program}
theorem run_copy_rows (w : World) (dT sT ty elem : TypeId) (sz g o dLen dCap : Nat) (a : Addr) (sLen sCap : Nat) (cur : Array Value) (t : TypeId) (cs : List Value)
    (hu : P.underlying dT = some (.slice elem)) (hs : (P.info? elem).map (·.size) = some sz)
    (hg : w.heap[g]? = some (.cells cur t (0, 0))) (hn : cs.length = Nat.min sLen dLen * sz)
    (hsrc : ∀ j v, cs[j]? = some v → w.cell? (a.add j) = some v) (hfit : o + cs.length ≤ cur.size) (h1 : ∀ v ∈ cs, v.oneCell' = true) :
    (Builtin.copy_ #[dT, sT] ty #[.slice (some ⟨g, o, none⟩) dLen dCap, .slice (some a) sLen sCap]).run P w =
      .ok (goInt (Nat.min sLen dLen)) (w.setRow g (cur.toList.take o ++ cs ++ cur.toList.drop (o + cs.length)).toArray) := by
  have hl := run_loadCells_list (P := P) w a cs hsrc
  have hst := run_storeCells_at P g o t cs 0 cur w hg (by simpa using hfit) h1
  cases hq : P.info? elem with
  | none => simp [hq] at hs
  | some i =>
    have hi : i.size = sz := by simpa [hq] using hs
    rw [hn] at hl
    simp [Builtin.copy_, run_underlying hu, Builtin.lenOf, Builtin.firstCells, sizeOf, typeInfo, hq, hi, hl, hst]

theorem step_copy_rows {ops : Array Oper} {o : Oper} {a : Act} {w : World} {K : Act → World → Prop} {Q : Exit → Act → World → Prop} {E : Prop} (hgd : o.guard = none) (d s : Operand) (dT sT : TypeId)
    (ho : o.op = .call { callee := .builtin .copy, args := #[d, s], argTypes := #[dT, sT] }) (elem : TypeId) (sz : Nat) (hu : P.underlying dT = some (.slice elem)) (hsz : (P.info? elem).map (·.size) = some sz)
    (g off : Nat) (ad : Addr) (dLen dCap sLen sCap : Nat) (hd : a.eval d = .slice (some ⟨g, off, none⟩) dLen dCap) (hs : a.eval s = .slice (some ad) sLen sCap)
    (cur : List Value) (t : TypeId) (hg : Blk w g t cur) (cs : List Value) (hn : cs.length = Nat.min sLen dLen * sz) (hsrc : ∀ j v, cs[j]? = some v → w.cell? (ad.add j) = some v)
    (hfit : off + cs.length ≤ cur.length) (h1 : ∀ v ∈ cs, v.oneCell' = true)
    (h : ∀ w', Blk w' g t (cur.take off ++ cs ++ cur.drop (off + cs.length)) → Chg (fun k => k = g) w w' → K (a.put o.dst (goInt (Nat.min sLen dLen))) w') :
    if Region.wanted o (yielded ops a.tmps) = true then Oper.wp P o a w K Q else E := by
  rw [if_pos (by simp [Region.wanted, hgd])]
  have hrun := run_copy_rows (P := P) w dT sT o.type elem sz g off dLen dCap ad sLen sCap cur.toArray t cs hu hsz hg hn hsrc (by simpa using hfit) h1
  unfold Oper.wp
  simp [execOp, ho, resolve, invoke, builtin, hd, hs, hrun, Result.andThen]
  refine h _ ?_ ((Chg.refl (fun k => k = g) w).setRow (.inl rfl) _)
  have := setRow_heap w g cur.toArray (cur.take off ++ cs ++ cur.drop (off + cs.length)).toArray t (0, 0) hg
  unfold Blk
  simpa using this
end
end Go
namespace Go.Proofs.Ytmmpdfcnenljhaa
open Go.RowKit

/-- A polynomial in memory. -/
def PolyAt (w : World) (p : Nat) (T : List Int) : Prop := Blk w p 78 (T.map (Value.int .i64)) ∧ T.length = 225

theorem zero_poly (w : World) : Blk (w.alloc (Obj.cells Try.zeroCells78 78)) w.heap.size 78 ((List.replicate 225 (0 : Int)).map (Value.int .i64)) := by
  have := Blk.new w Try.zeroCells78 78
  rwa [show Try.zeroCells78.toList = (List.replicate 225 (0 : Int)).map (Value.int .i64) by rfl] at this

theorem poly_cell {w : World} {p : Nat} {T : List Int} (h : PolyAt w p T) {j : Nat} {v : Value} (hj : (T.map (Value.int .i64))[j]? = some v) : w.cell? ⟨p, j, none⟩ = some v := h.1.cell_some hj

set_option maxRecDepth 100000 in
set_option maxHeartbeats 1000000 in
theorem timesY_any (T : List Int) (p : Nat) (w : World) (hT : PolyAt w p T) :
    Calls Try.prog 48 #[.pointer (some ⟨p, 0, none⟩)] w fun e w' => ∃ p', e = .returned (.pointer (some ⟨p', 0, none⟩)) ∧ PolyAt w' p' (List.replicate 15 0 ++ T.take 210) ∧ Chg (fun _ => False) w w' := by
  have hpl := hT.1.lt
  have hlen := hT.2
  obtain ⟨pb, hpb⟩ : ∃ pb, w.heap.size = pb := ⟨_, rfl⟩
  have hZ := zero_poly w
  rw [hpb] at hZ
  have HC0 := Lib.hid ((Chg.refl (fun _ => False) w).alloc (Obj.cells Try.zeroCells78 78))
  have HZ := Lib.hid hZ.drew
  have HSRC : Hid (∀ j v, ((T.take 210).map (Value.int .i64))[j]? = some v → (w.alloc (Obj.cells Try.zeroCells78 78)).drew.cell? ((⟨p, 0, none⟩ : Addr).add j) = some v) := Lib.hid (fun j v hj => by
    rw [add_plain, Nat.zero_add]
    refine (HC0.out.drew).cell_some (poly_cell hT ?_) (fun x => x)
    rw [List.map_take, List.getElem?_take] at hj
    split at hj
    · exact hj
    · cases hj)
  have HN := Lib.hid (show ((T.take 210).map (Value.int .i64)).length = Nat.min 15 14 * 15 by simp; omega)
  have HONE : Hid (∀ v ∈ (T.take 210).map (Value.int .i64), v.oneCell' = true) := Lib.hid (fun v hv => by obtain ⟨x, _, rfl⟩ := List.mem_map.1 hv; rfl)
  have HL := Lib.hid hlen; have HPB := Lib.hid hpb
  clear hT hZ hlen
  go_enter Try.func48, Try.ntmps48
  go_wp2_with fail
  clear hpb
  go_region_law (refine step_copy_rows rfl (.tmp 4) (.tmp 7) 109 109 rfl 76 15 Try.underlying109 (by kernel_rfl) pb 15 ⟨p, 0, none⟩ 14 14 15 15 (by simp [Act.eval, Act.put]) (by simp [Act.eval, Act.put]) _ 78 HZ.out ((T.take 210).map (Value.int .i64)) HN.out HSRC.out (by rw [HN.out]; simp) HONE.out ?_; intro w3 hb3 hc3)
  all_goals
    have HB3 := Lib.hid hb3; have HC3 := Lib.hid hc3
    clear hb3 hc3
    go_wp2_with fail
    go_ret
    refine ⟨pb, rfl, ⟨?_, by simp [HL.out]⟩, HC0.out.drew.trans HC3.out (fun k hk => .inr (by have := HPB.out; omega))⟩
    have h := HB3.out
    rw [HN.out] at h
    rw [List.map_append]
    simpa using h
end Go.Proofs.Ytmmpdfcnenljhaa
