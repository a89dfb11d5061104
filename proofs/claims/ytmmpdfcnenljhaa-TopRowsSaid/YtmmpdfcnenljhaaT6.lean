/- turn.each. Its conditions are its premises. -/
import Derived.Test.YtmmpdfcnenljhaaT5
import Derived.Laws.MakeOwn
import Derived.Laws.EntriesVeiled
set_option linter.unusedVariables false
namespace Go
section
variable {P : Program} {w : World} {ops : Array Oper} {rest : List Oper} {o : Oper} {a : Act} {Q : Exit → Act → World → Prop}
/-- A whole array or struct is read, wherever it lies. -/
theorem wpList_load_at (hgd : Region.wanted o (yielded ops a.tmps) = true) (ty : TypeId) (x : Operand) (ho : o.op = .load ty x)
    (ad : Addr) (hx : a.eval x = .pointer (some ad)) (cs : List Value) (d : TypeDesc) (hc : ∀ j v, cs[j]? = some v → w.cell? (ad.add j) = some v)
    (hu : P.underlying ty = some d) (hd : (match d with | .struct _ | .array _ _ => true | _ => false) = true) (hi : (P.info? ty).map (·.size) = some cs.length)
    (h : wpList P ops Q rest (a.put o.dst (.agg cs.toArray)) w) : wpList P ops Q (o :: rest) a w := by
  refine wpList_step fun K hK => ?_
  rw [if_pos hgd]
  have hl := run_loadCells_list (P := P) w ad cs hc
  have hr : (loadVar ty ad).run P w = .ok (.agg cs.toArray) w := by
    cases hq : P.info? ty with
    | none => simp [hq] at hi
    | some i =>
      have hs : i.size = cs.length := by simpa [hq] using hi
      have hagg : (isAgg ty).run P w = .ok true w := by
        unfold isAgg
        rw [Sem.run_bind, run_underlying hu w]
        cases d <;> simp_all
      simp [loadVar, Sem.run_bind, hagg, sizeOf, typeInfo, hq, hs, hl]
  unfold Oper.wp execOp
  simp only [ho, hx, Instr.loadAt, Instr.sureAddr, Sem.run_bind, Sem.run_pure, Result.andThen_ok, hr]
  exact hK _ _ h
end
end Go
namespace Go.Proofs.Ytmmpdfcnenljhaa.Turn
open Go.RowKit
theorem plans_zero {T N : Nat} {l : List Sp} (hT : 1 ≤ T) : plansFrom T l (N + 1) [] = plansFrom T l N [0] := by
  show (List.range T).flatMap (fun (h : Nat) => plansFrom T l N ([] ++ [(h : Int)])) = _
  have e : List.range T = 0 :: List.range' 1 (T - 1) := by rw [List.range_eq_range', show T = (T - 1) + 1 by omega, List.range'_succ]; simp
  rw [e, List.flatMap_cons]
  have hz : (List.range' 1 (T - 1)).flatMap (fun (h : Nat) => plansFrom T l N ([] ++ [(h : Int)])) = [] := by
    rw [List.flatMap_eq_nil_iff]
    intro h hh
    rw [List.mem_range'_1] at hh
    rw [List.eq_nil_iff_forall_not_mem]
    intro Y hY
    have hR : InRound T ([] ++ [(h : Int)]) := fun i hi => by
      simp at hi
      subst hi
      unfold hr
      simp
      omega
    obtain ⟨_, _, y3, y4⟩ := mem_plansFrom hR hY
    have h1 := okPlan_zero y3
    have h2 := y4 0 (by simp)
    rw [h1] at h2
    unfold hr at h2
    simp at h2
    omega
  rw [hz, List.append_nil]
  rfl

theorem good_zero {T N : Nat} {l : List Sp} {M : List Nat} (hA : ApartOk T N l M) (hN : 1 ≤ N) (hT : 1 ≤ T) (h0 : at6 M 0 0 ≠ 0) : GoodX T M [0] := by
  refine ⟨fun i hi => by simp at hi; subst hi; unfold hr; simp; omega, fun k hk => ?_, fun j k hjk hk => by simp at hk; omega⟩
  simp at hk
  subst hk
  obtain ⟨i, hi⟩ := Nat.exists_testBit_of_ne_zero h0
  have := hA.diag 0 (by omega) i hi
  subst this
  unfold hr
  simpa using hi

theorem left_zero {T N : Nat} {l : List Sp} {M : List Nat} (hA : ApartOk T N l M) (hN : N ≤ 6) : LeftOk T N M [0] (M.take 6) := by
  have h := LeftOk.start hA hN
  refine ⟨h.len, h.small, fun k hk1 hk x hx => (h.bit k (by simp) hk x hx).trans ⟨fun ⟨b, _⟩ => ⟨b, fun j hj => ?_⟩, fun ⟨b, _⟩ => ⟨b, fun j hj => by simp at hj⟩⟩⟩
  simp at hj
  subst hj
  have e : ((x : Int) - hr [0] 0) % (T : Int) = x := by rw [show hr [0] 0 = 0 from rfl, Int.sub_zero]; exact Int.emod_eq_of_lt (by omega) (by omega)
  rw [e]
  simpa using b

theorem plans_none {T N : Nat} {l : List Sp} {M : List Nat} (hA : ApartOk T N l M) (hN : 1 ≤ N) (h0 : at6 M 0 0 = 0) : plans T N l = [] := by
  rw [List.eq_nil_iff_forall_not_mem]
  intro Y hY
  obtain ⟨y1, y2, y3, _⟩ := mem_plansFrom (fun i hi => by simp at hi) hY
  simp at y1
  have h1 := hA.sound Y (okPlan_keeps y1 y2 y3) 0 0 (by omega) (by omega)
  rw [h0] at h1
  simp at h1

/-- What turn.each leaves. -/
def EachPost {σ : Type} (V : Visitor σ) (pl : List (List Int)) (s : σ) (w : World) (e : Ending) (w' : World) : Prop :=
  e = .returned (.bool (runV V.step pl s).1) ∧ (∃ bh ha, w.heap.size ≤ bh ∧ w.heap.size ≤ ha ∧ V.Inv bh ha (runV V.step pl s).2 w') ∧ Chg V.Own w w'

theorem info87 : (Try.prog.info? 135).map (·.size) = some 36 := by kernel_rfl

theorem info86 : (Try.prog.info? 134).map (·.size) = some 6 := by kernel_rfl

set_option maxRecDepth 100000 in
set_option maxHeartbeats 2000000 in
theorem each_any {σ : Type} (V : Visitor σ) (T N : Nat) (l : List Sp) (s : σ) (p b off : Nat) (a : Option Addr) (cap : Nat) (w : World) (hV : V.Ok T N l w.heap.size) (hs : SpansAt w b off l) (ha : l = [] ∨ a = some ⟨b, off, none⟩)
    (hv : Valid T N l) (hp : PlanAt w p T N (.slice a l.length cap)) (hI : ∀ bh ha, w.heap.size ≤ bh → w.heap.size ≤ ha → V.Inv bh ha s w) (hop : ¬ V.Own p) :
    Calls Try.prog 63 #[.pointer (some ⟨p, 0, none⟩), .func (.func V.f) #[] V.caught] w (EachPost V (plans T N l) s w) := by
  obtain ⟨i0, hi0, hz0, hz1, hz2⟩ := info_parts info3
  have hv' := hv
  obtain ⟨t1, t2, n1, n2, hl, hok⟩ := hv
  have hT : 1 ≤ T := by omega
  have hT2 : T ≤ 24 := by omega
  have hN : 1 ≤ N := by omega
  have hN2 : N ≤ 6 := by omega
  have hmk : ∀ w, (Instr.makeSlice 40 (.int .i64 1) (.int .i64 N)).run Try.prog w = .ok (.slice (some ⟨w.heap.size, 0, none⟩) 1 N) (w.alloc (.cells (Array.replicate N (.int .i64 0)) 3)) := fun w => by
    have := run_make (P := Try.prog) w 40 3 i0 _ Try.underlying40 hi0 hz0 .i64 .i64 1 N (by omega) (by omega) (by rw [hz2]; omega) (by omega)
    rw [this, hz1, Nat.mul_one, show (Value.int IntKind.i64 0).cells = #[Value.int IntKind.i64 0] from rfl, madeCells_one]
    rfl
  have hmf : ∀ (fn : Fn) (first cap : Array Value) (w : World), (Instr.makeFunc fn first cap).run Try.prog w = .ok (.func fn first cap) w := fun _ _ _ _ => rfl
  have hpl : p < w.heap.size := World.cell_lt hp.1
  have HS := Lib.hid hs; have HA := Lib.hid ha; have HV' := Lib.hid hv'; have HP := Lib.hid hp; have HI := Lib.hid hI; have HO := Lib.hid hop; have HV := Lib.hid hV; have HOK := Lib.hid hok
  clear hs ha hv' hp hI hop hV hi0 hz0 hz1 hz2 hok
  go_enter Try.func63, Try.ntmps63
  go_wp2_with fail
  have hg0 : Chg (fun _ => False) w ((w.alloc (Obj.cells #[Value.pointer (some { block := p, off := 0 })] 100)).alloc (Obj.cells #[Value.func (Fn.func V.f) #[] V.caught] 96)) := ((Chg.refl _ w).alloc _).alloc _
  have hb0 : Blk ((w.alloc (Obj.cells #[Value.pointer (some { block := p, off := 0 })] 100)).alloc (Obj.cells #[Value.func (Fn.func V.f) #[] V.caught] 96)) w.heap.size 100 [Value.pointer (some ⟨p, 0, none⟩)] := (Blk.new w _ 100).alloc _
  have hb1 : Blk ((w.alloc (Obj.cells #[Value.pointer (some { block := p, off := 0 })] 100)).alloc (Obj.cells #[Value.func (Fn.func V.f) #[] V.caught] 96)) (w.heap.size + 1) 96 [Value.func (Fn.func V.f) #[] V.caught] := by
    have := Blk.new (w.alloc (Obj.cells #[Value.pointer (some { block := p, off := 0 })] 100)) #[Value.func (Fn.func V.f) #[] V.caught] 96
    rwa [World.size_alloc] at this
  generalize hW : (w.alloc (Obj.cells #[Value.pointer (some { block := p, off := 0 })] 100)).alloc (Obj.cells #[Value.func (Fn.func V.f) #[] V.caught] 96) = W0 at hg0 hb0 hb1 ⊢
  clear hW
  refine (apart_any T N l a cap W0 p b off (HS.out.chg hg0 (fun x => x)) HA.out HV'.out (HP.out.chg hg0 (fun x => x))).mono ?_
  rintro e w' ⟨M, hM, rfl, x, rfl⟩
  have hg1 := hg0.grow x
  have hc0 := hb0.grow x
  have hc1 := hb1.grow x
  generalize W0.grow x = W1 at hg1 hc0 hc1 ⊢
  clear hg0 hb0 hb1
  have HG1 := Lib.hid hg1; have HC0 := Lib.hid hc0; have HC1 := Lib.hid hc1; have HM := Lib.hid hM
  have hs1 : w.heap.size + 1 < W1.heap.size := hc1.lt
  clear hg1 hc0 hc1 hM
  have hlen := HM.out.small.1
  have HZ := Lib.hid (show (Try.prog.info? 135).map (·.size) = some (M.map hset).length by rw [show (M.map hset).length = 36 by simp [hlen]]; exact info87)
  have HONE := Lib.hid (show ∀ v ∈ M.map hset, v.oneCell' = true by intro v hv; obtain ⟨x, _, rfl⟩ := List.mem_map.1 hv; rfl)
  have HLEN := Lib.hid hlen; clear hlen
  have key : Hid (∀ o W, Chg (fun k => k = W1.heap.size) (W1.alloc o) W → Chg (fun _ => False) W1 W) := fun o W hc => ((Chg.refl (fun _ => False) W1).alloc o).trans hc (fun k hk => .inr (by omega))
  by_cases h00 : at6 M 0 0 = 0
  · have hq : (((at6 M 0 0 : Nat) : Int) != 0) = false := by rw [h00]; rfl
    have H00 := Lib.hid h00; clear h00
    go_wp2_with (refine wpList_store_blk rfl 135 (.tmp 5) (.tmp 9) rfl W1.heap.size _ rfl rfl 135 _ (Blk.new W1 _ 135) HZ.out (by simp [HLEN.out]) HONE.out ?_; intro W2 hB2 hC2; have hc2 := Lib.hid (key.out _ W2 hC2); clear hC2; have g1 := (hc2.out.blk HC0.out (fun x => x)).cell_some (i := 0) rfl; have g2 := hc2.out.cell_some (HG1.out.cell_some HP.out.2.1 (fun x => x)) (fun x => x); have g3 := hB2.cell_some (i := 0) (v := .int .u32 (at6 M 0 0 : Nat)) (by rw [List.getElem?_map, show (0 : Nat) = 0 * 6 + 0 from rfl, at6_get (by omega) (by omega) HLEN.out]; rfl); have hb2 := Lib.hid hB2; have hs2 := hB2.lt; have hs3 : W1.heap.size < W2.heap.size + 1 := Nat.lt_succ_of_lt hs2; have hs4 : W1.heap.size < W2.heap.size + 1 + 1 := Nat.lt_succ_of_lt hs3; clear hB2)
    have hg3 : Chg (fun _ => False) w _ := (((HG1.out.trans hc2.out (fun _ x => x.elim)).alloc (Obj.cells (Array.replicate N (Value.int IntKind.i64 0)) 3)).alloc (Obj.cells #[Value.slice (some { block := W2.heap.size, off := 0 }) 1 N] 40)).alloc (Obj.cells #[Value.func (Fn.func 94) #[] #[Value.pointer (some { block := W2.heap.size + 1, off := 0 }), Value.pointer (some { block := w.heap.size, off := 0 }), Value.pointer (some { block := w.heap.size + 1, off := 0 }), Value.pointer (some { block := W1.heap.size, off := 0 }), Value.pointer (some { block := W2.heap.size + 1 + 1, off := 0 })]] 137)
    go_ret
    unfold EachPost
    rw [plans_none HM.out hN H00.out]
    exact ⟨rfl, ⟨w.heap.size, w.heap.size, Nat.le_refl _, Nat.le_refl _, HV.out.stab _ _ s _ _ (Nat.le_refl _) (Nat.le_refl _) (HI.out _ _ (Nat.le_refl _) (Nat.le_refl _)) (hg3.mono (fun _ x => x.elim))⟩, hg3.mono (fun _ x => x.elim)⟩
  · have hq : (((at6 M 0 0 : Nat) : Int) != 0) = true := by rw [bne_iff_ne]; omega
    have H00 := Lib.hid h00; clear h00
    have key2 : Hid (∀ o1 o2 o3 W, Blk W W1.heap.size 135 (M.map hset) → ∀ j u, ((M.take 6).map hset)[j]? = some u → (((W.alloc o1).alloc o2).alloc o3).cell? ((⟨W1.heap.size, 0, none⟩ : Addr).add j) = some u) := fun o1 o2 o3 W hB j u hu => by
      rw [add_plain, Nat.zero_add]
      refine (((hB.alloc o1).alloc o2).alloc o3).cell_some ?_
      rw [List.map_take, List.getElem?_take] at hu
      split at hu
      · exact hu
      · cases hu
    have HZ6 := Lib.hid (show (Try.prog.info? 134).map (·.size) = some ((M.take 6).map hset).length by rw [show ((M.take 6).map hset).length = 6 by simp [HLEN.out]]; exact info86)
    go_wp2_with (first | (refine wpList_store_blk rfl 135 (.tmp 5) (.tmp 9) rfl W1.heap.size _ rfl rfl 135 _ (Blk.new W1 _ 135) HZ.out (by simp [HLEN.out]) HONE.out ?_; intro W2 hB2 hC2; have hc2 := Lib.hid (key.out _ W2 hC2); clear hC2; have g1 := (hc2.out.blk HC0.out (fun x => x)).cell_some (i := 0) rfl; have g2 := hc2.out.cell_some (HG1.out.cell_some HP.out.2.1 (fun x => x)) (fun x => x); have g3 := hB2.cell_some (i := 0) (v := .int .u32 (at6 M 0 0 : Nat)) (by rw [List.getElem?_map, show (0 : Nat) = 0 * 6 + 0 from rfl, at6_get (by omega) (by omega) HLEN.out]; rfl); have hb2 := Lib.hid hB2; have hs2 := hB2.lt; have hs3 : W1.heap.size < W2.heap.size + 1 := Nat.lt_succ_of_lt hs2; have hs4 : W1.heap.size < W2.heap.size + 1 + 1 := Nat.lt_succ_of_lt hs3; clear hB2) | (refine wpList_load_at rfl 134 (.tmp 22) rfl ⟨W1.heap.size, 0, none⟩ rfl ((M.take 6).map hset) _ (key2.out _ _ _ _ hb2.out) Try.underlying134 rfl HZ6.out ?_))
    have hgW : Chg (fun _ => False) w W2 := HG1.out.trans hc2.out (fun _ x => x.elim)
    have hg3 : Chg (fun _ => False) w _ := ((hgW.alloc (Obj.cells (Array.replicate N (Value.int IntKind.i64 0)) 3)).alloc (Obj.cells #[Value.slice (some { block := W2.heap.size, off := 0 }) 1 N] 40)).alloc (Obj.cells #[Value.func (Fn.func 94) #[] #[Value.pointer (some { block := W2.heap.size + 1, off := 0 }), Value.pointer (some { block := w.heap.size, off := 0 }), Value.pointer (some { block := w.heap.size + 1, off := 0 }), Value.pointer (some { block := W1.heap.size, off := 0 }), Value.pointer (some { block := W2.heap.size + 1 + 1, off := 0 })]] 137)
    have hown := HV.out.own
    have hbo : Blk ((((W2.alloc (Obj.cells (Array.replicate N (Value.int IntKind.i64 0)) 3)).alloc (Obj.cells #[Value.slice (some { block := W2.heap.size, off := 0 }) 1 N] 40)).alloc (Obj.cells #[Value.func (Fn.func 94) #[] #[Value.pointer (some { block := W2.heap.size + 1, off := 0 }), Value.pointer (some { block := w.heap.size, off := 0 }), Value.pointer (some { block := w.heap.size + 1, off := 0 }), Value.pointer (some { block := W1.heap.size, off := 0 }), Value.pointer (some { block := W2.heap.size + 1 + 1, off := 0 })]] 137))) (W2.heap.size + 1 + 1) 137 [Value.func (Fn.func 94) #[] #[Value.pointer (some { block := W2.heap.size + 1, off := 0 }), Value.pointer (some { block := w.heap.size, off := 0 }), Value.pointer (some { block := w.heap.size + 1, off := 0 }), Value.pointer (some { block := W1.heap.size, off := 0 }), Value.pointer (some { block := W2.heap.size + 1 + 1, off := 0 })]] := by
      have := Blk.new ((W2.alloc (Obj.cells (Array.replicate N (Value.int IntKind.i64 0)) 3)).alloc (Obj.cells #[Value.slice (some { block := W2.heap.size, off := 0 }) 1 N] 40)) #[Value.func (Fn.func 94) #[] #[Value.pointer (some { block := W2.heap.size + 1, off := 0 }), Value.pointer (some { block := w.heap.size, off := 0 }), Value.pointer (some { block := w.heap.size + 1, off := 0 }), Value.pointer (some { block := W1.heap.size, off := 0 }), Value.pointer (some { block := W2.heap.size + 1 + 1, off := 0 })]] 137
      simp only [World.size_alloc] at this
      exact this
    have hbh : Blk ((((W2.alloc (Obj.cells (Array.replicate N (Value.int IntKind.i64 0)) 3)).alloc (Obj.cells #[Value.slice (some { block := W2.heap.size, off := 0 }) 1 N] 40)).alloc (Obj.cells #[Value.func (Fn.func 94) #[] #[Value.pointer (some { block := W2.heap.size + 1, off := 0 }), Value.pointer (some { block := w.heap.size, off := 0 }), Value.pointer (some { block := w.heap.size + 1, off := 0 }), Value.pointer (some { block := W1.heap.size, off := 0 }), Value.pointer (some { block := W2.heap.size + 1 + 1, off := 0 })]] 137))) (W2.heap.size + 1) 40 [Value.slice (some { block := W2.heap.size, off := 0 }) 1 N] := by
      have := (Blk.new (W2.alloc (Obj.cells (Array.replicate N (Value.int IntKind.i64 0)) 3)) #[Value.slice (some { block := W2.heap.size, off := 0 }) 1 N] 40)
      simp only [World.size_alloc] at this
      exact this.alloc _
    have hba : Blk ((((W2.alloc (Obj.cells (Array.replicate N (Value.int IntKind.i64 0)) 3)).alloc (Obj.cells #[Value.slice (some { block := W2.heap.size, off := 0 }) 1 N] 40)).alloc (Obj.cells #[Value.func (Fn.func 94) #[] #[Value.pointer (some { block := W2.heap.size + 1, off := 0 }), Value.pointer (some { block := w.heap.size, off := 0 }), Value.pointer (some { block := w.heap.size + 1, off := 0 }), Value.pointer (some { block := W1.heap.size, off := 0 }), Value.pointer (some { block := W2.heap.size + 1 + 1, off := 0 })]] 137))) W2.heap.size 3 (List.replicate N (Value.int IntKind.i64 0)) := by
      have := ((Blk.new W2 (Array.replicate N (Value.int IntKind.i64 0)) 3).alloc (Obj.cells #[Value.slice (some { block := W2.heap.size, off := 0 }) 1 N] 40)).alloc (Obj.cells #[Value.func (Fn.func 94) #[] #[Value.pointer (some { block := W2.heap.size + 1, off := 0 }), Value.pointer (some { block := w.heap.size, off := 0 }), Value.pointer (some { block := w.heap.size + 1, off := 0 }), Value.pointer (some { block := W1.heap.size, off := 0 }), Value.pointer (some { block := W2.heap.size + 1 + 1, off := 0 })]] 137)
      rwa [Array.toList_replicate] at this
    have hcW : Chg (fun _ => False) W2 ((((W2.alloc (Obj.cells (Array.replicate N (Value.int IntKind.i64 0)) 3)).alloc (Obj.cells #[Value.slice (some { block := W2.heap.size, off := 0 }) 1 N] 40)).alloc (Obj.cells #[Value.func (Fn.func 94) #[] #[Value.pointer (some { block := W2.heap.size + 1, off := 0 }), Value.pointer (some { block := w.heap.size, off := 0 }), Value.pointer (some { block := w.heap.size + 1, off := 0 }), Value.pointer (some { block := W1.heap.size, off := 0 }), Value.pointer (some { block := W2.heap.size + 1 + 1, off := 0 })]] 137))) := (((Chg.refl _ W2).alloc _).alloc _).alloc _
    clear hg3
    rw [← List.map_take]
    generalize hW3 : (((W2.alloc (Obj.cells (Array.replicate N (Value.int IntKind.i64 0)) 3)).alloc (Obj.cells #[Value.slice (some { block := W2.heap.size, off := 0 }) 1 N] 40)).alloc (Obj.cells #[Value.func (Fn.func 94) #[] #[Value.pointer (some { block := W2.heap.size + 1, off := 0 }), Value.pointer (some { block := w.heap.size, off := 0 }), Value.pointer (some { block := w.heap.size + 1, off := 0 }), Value.pointer (some { block := W1.heap.size, off := 0 }), Value.pointer (some { block := W2.heap.size + 1 + 1, off := 0 })]] 137)) = W3 at hbo hbh hba hcW ⊢
    clear hW3
    have hg3 : Chg (fun _ => False) w W3 := hgW.trans hcW (fun _ x => x.elim)
    have hlook : Look W3 (W2.heap.size + 1) w.heap.size (w.heap.size + 1) W1.heap.size (W2.heap.size + 1 + 1) p T N (.slice a l.length cap) (.func (.func V.f) #[] V.caught) M :=
      ⟨((hcW.blk (hc2.out.blk HC0.out (fun x => x)) (fun x => x)).cell_some (i := 0) rfl), ((hcW.blk (hc2.out.blk HC1.out (fun x => x)) (fun x => x)).cell_some (i := 0) rfl), hcW.blk hb2.out (fun x => x), hbo.cell_some (i := 0) rfl, HP.out.chg hg3 (fun x => x)⟩
    have hhours : Hours W3 (W2.heap.size + 1) W2.heap.size N [(0 : Int)].length [0] :=
      ⟨hbh.cell_some (i := 0) rfl, hbh.free 0, List.replicate (N - 1) (Value.int IntKind.i64 0), by
        rw [show N = (N - 1) + 1 by omega, List.replicate_succ] at hba; exact hba, by simp; omega⟩
    refine (on_any V T N l w.heap.size HV.out (W2.heap.size + 1) W2.heap.size w.heap.size (w.heap.size + 1) W1.heap.size (W2.heap.size + 1 + 1) p (.slice a l.length cap) M HM.out hN hN2 hT hT2 (fun s hs => by have := HOK.out s hs; omega)
      (by omega) (by omega) (by omega) (by omega) (by omega) (by omega) (by omega) (by omega) ⟨fun x => by have := hown _ x; omega, fun x => by have := hown _ x; omega, fun x => by have := hown _ x; omega, fun x => by have := hown _ x; omega, HO.out⟩ (N - 1) [0] (M.take 6) s W3 (by simp; omega) (left_zero HM.out hN2) (good_zero HM.out hN hT H00.out) hlook hhours
      (HV.out.stab _ _ s _ _ (by omega) (by omega) (HI.out _ _ (by omega) (by omega)) (hg3.mono (fun _ x => x.elim)))).mono ?_
    rintro e w' ⟨rfl, i1, i2, i3⟩
    go_wp2
    go_ret
    unfold EachPost
    have ep : plans T N l = plansFrom T l (N - 1) [0] := by
      unfold plans
      rw [show N = (N - 1) + 1 by omega]
      exact plans_zero hT
    rw [ep]
    have hsz3 := hg3.size
    refine ⟨rfl, ⟨W2.heap.size + 1, W2.heap.size, by omega, by omega, i1⟩, (hg3.mono (S' := V.Own) (fun _ x => x.elim)).trans i3 (fun k hk => ?_)⟩
    rcases hk with hk | hk | hk
    · exact .inl hk
    · exact .inr (by omega)
    · exact .inr (by omega)

/-- The visitor of Plans: it counts. -/
def manyV (bm : Nat) : Visitor Int where
  f := 64
  caught := #[.pointer (some ⟨bm, 0, none⟩)]
  step z _ := (decide (1000000 < wrap64 (z + 1)), wrap64 (z + 1))
  Own k := k = bm
  Inv _ _ z w := Blk w bm 3 [.int .i64 z]

set_option maxRecDepth 100000 in
theorem manyV_ok (bm T N : Nat) (l : List Sp) (B0 : Nat) (hB : bm < B0) : (manyV bm).Ok T N l B0 := by
  refine ⟨fun args w => rfl, fun k hk => by rw [show k = bm from hk]; exact hB, fun bh ha s w w' h1 h2 hI hc => hc.blk hI (by omega), ?_⟩
  intro bh ha s w X c h1 h2 h3 h4 hI hX hlen hR hok hc
  have hI' : Blk w bm 3 [.int .i64 s] := hI
  have g0 := hI'.cell_some (i := 0) rfl
  have hf0 := hI'.free 0
  have HI := Lib.hid hI'
  clear hI hI' hX hR hok
  show Calls Try.prog 64 #[.slice (some ⟨ha, 0, none⟩) X.length c, .pointer (some ⟨bm, 0, none⟩)] w _
  go_enter Try.func64, Try.ntmps64
  go_wp2
  go_ret
  exact ⟨rfl, HI.out.set 0 _, (Chg.refl (fun k => k = bm) w).setCell (a := ⟨bm, 0, none⟩) (.inl rfl) _⟩

theorem runV_many (bm : Nat) : ∀ (L : List (List Int)) (z : Nat), z ≤ 1000000 → runV (manyV bm).step L (z : Int) = if 1000000 < z + L.length then (true, 1000001) else (false, ((z + L.length : Nat) : Int)) := by
  intro L
  induction L with
  | nil => intro z hz; simp only [runV, List.length_nil, Nat.add_zero]; rw [if_neg (by omega)]
  | cons X L ih =>
    intro z hz
    have e : (manyV bm).step (z : Int) X = (decide (1000000 < z + 1), ((z + 1 : Nat) : Int)) := by
      show (decide (1000000 < wrap64 ((z : Int) + 1)), wrap64 ((z : Int) + 1)) = _
      rw [wrap64_small (by omega) (by omega)]
      simp
      omega
    simp only [runV, e]
    by_cases h : 1000000 < z + 1
    · obtain rfl : z = 1000000 := by omega
      rw [if_pos (by simp), if_pos (by simp)]
      rfl
    · rw [if_neg (by simp; omega)]
      rw [ih (z + 1) (by omega), List.length_cons, show z + 1 + L.length = z + (L.length + 1) by omega]

/-- What Plans answers. -/
def plansE (t n : Int) (l : List Sp) : Int × Int :=
  if spansE t n l ≠ 0 then (0, spansE t n l) else if 1000000 < (plans t.toNat n.toNat l).length then (0, 8) else (((plans t.toNat n.toNat l).length : Nat), 0)

set_option maxRecDepth 100000 in
set_option maxHeartbeats 1000000 in
theorem Plans_any (t n : Int) (l : List Sp) (a : Option Addr) (cap : Nat) (w : World) (b off : Nat) (hs : SpansAt w b off l) (ha : l = [] ∨ a = some ⟨b, off, none⟩) :
    Calls Try.prog 30 #[.int .i64 t, .int .i64 n, .slice a l.length cap] w fun e w' => e = .returned (.tuple #[.int .i64 (plansE t n l).1, .int .i64 (plansE t n l).2]) ∧ Chg (fun _ => False) w w' := by
  have hmf : ∀ (fn : Fn) (first cap : Array Value) (w : World), (Instr.makeFunc fn first cap).run Try.prog w = .ok (.func fn first cap) w := fun _ _ _ _ => rfl
  have HS := Lib.hid hs; have HA := Lib.hid ha; clear hs ha
  go_enter Try.func30, Try.ntmps30
  go_wp2_with fail
  refine (of_any t n l a cap w b off HS.out HA.out).mono ?_
  rintro e w' ⟨⟨x, rfl⟩, ⟨h0, rfl⟩ | ⟨h0, p, rfl, hp, hsz⟩⟩
  · have hq : (spansE t n l != 0) = true := by simpa using h0
    have H0 := Lib.hid h0; clear h0
    go_wp2_with fail
    go_ret2
    have h0 := H0.out
    unfold plansE
    rw [if_pos h0]
    exact ⟨rfl, grow_chg w x⟩
  · have hv := valid_of h0
    obtain ⟨T, rfl⟩ : ∃ T : Nat, t = T := ⟨t.toNat, by have := hv.t1; omega⟩
    obtain ⟨N, rfl⟩ : ∃ N : Nat, n = N := ⟨n.toNat, by have := hv.n1; omega⟩
    have H0 := Lib.hid h0; have HV := Lib.hid hv; have HP := Lib.hid hp
    clear h0 hv hp
    have hc0 := grow_chg w x
    have HSW := Lib.hid (HS.out.chg hc0 (fun x => x))
    generalize w.grow x = W at hc0 HP HSW ⊢
    have hpb : p < W.heap.size := World.cell_lt HP.out.1
    have hc1 : Chg (fun _ => False) W (W.alloc (Obj.cells #[Value.int IntKind.i64 0] 3)) := (Chg.refl _ W).alloc _
    have hblk := Blk.new W #[Value.int IntKind.i64 0] 3
    have hsz1 : (W.alloc (Obj.cells #[Value.int IntKind.i64 0] 3)).heap.size = W.heap.size + 1 := by simp
    have HC0 := Lib.hid hc0; have HC1 := Lib.hid hc1; have HB := Lib.hid hblk; have HS1 := Lib.hid hsz1
    clear hc0 hc1 hblk hsz1
    go_wp2_with fail
    generalize (W.alloc (Obj.cells #[Value.int IntKind.i64 0] 3)) = W1 at HC1 HB HS1 ⊢
    have hs1 := HS1.out
    refine (each_any (manyV W.heap.size) T N l 0 p b off a cap W1 (manyV_ok _ T N l _ (by omega)) (HSW.out.chg HC1.out (fun x => x)) HA.out HV.out (HP.out.chg HC1.out (fun x => x)) (fun bh ha _ _ => HB.out) (fun x => by have : p = W.heap.size := x; omega)).mono ?_
    have hrv := runV_many W.heap.size (plans T N l) 0 (by omega)
    rw [Nat.zero_add] at hrv
    rintro e w' ⟨rfl, ⟨bh, ha, _, _, hI⟩, hc2⟩
    have hcc : Chg (fun _ => False) w w' := (HC0.out.trans HC1.out (fun _ x => x.elim)).trans hc2 (fun k hk => .inr (by have := HC0.out.size; have : k = W.heap.size := hk; omega))
    have hE : plansE (T : Int) (N : Int) l = if 1000000 < (plans T N l).length then ((0 : Int), (8 : Int)) else ((((plans T N l).length : Nat) : Int), 0) := by
      unfold plansE
      rw [if_neg (by simpa using H0.out), Int.toNat_natCast, Int.toNat_natCast]
    by_cases hm : 1000000 < (plans T N l).length
    · rw [if_pos hm] at hrv hE
      have hr2 : runV (manyV W.heap.size).step (plans T N l) 0 = (true, 1000001) := hrv
      rw [hr2]
      have HE := Lib.hid hE
      clear hE hr2 hrv
      go_wp2_with fail
      go_ret2
      rw [HE.out]
      exact ⟨rfl, hcc⟩
    · rw [if_neg hm] at hrv hE
      have hr2 : runV (manyV W.heap.size).step (plans T N l) 0 = (false, (((plans T N l).length : Nat) : Int)) := hrv
      rw [hr2] at hI ⊢
      have HE := Lib.hid hE
      have hI' : Blk w' W.heap.size 3 [.int .i64 (((plans T N l).length : Nat) : Int)] := hI
      have g0 := hI'.cell_some (i := 0) rfl
      clear hI hI' hE hr2 hrv
      go_wp2_with fail
      go_ret2
      rw [HE.out]
      exact ⟨rfl, hcc⟩
end Go.Proofs.Ytmmpdfcnenljhaa.Turn
