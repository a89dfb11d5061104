/- One step of the search. Its conditions are its premises. -/
import Derived.Test.YtmmpdfcnenljhaaT4
set_option linter.unusedVariables false
namespace Go.Proofs.Ytmmpdfcnenljhaa.Turn
open Go.RowKit


/-- A round of the search's loop: the hours before h have been tried. -/
structure Rnd {σ : Type} (V : Visitor σ) (T N m : Nat) (l : List Sp) (X : List Int) (L : List Nat) (bh ha : Nat) (s s1 : σ) (w wr : World) (h : Nat) : Prop where
  chg : Chg (fun k => V.Own k ∨ k = bh ∨ k = ha) w wr
  left : Blk wr w.heap.size 134 (L.map hset)
  ivar : Blk wr (w.heap.size + 1) 3 [Value.int .i64 X.length]
  hours : Hours wr bh ha N (X.length + 1) X
  inv : V.Inv bh ha s1 wr
  run : runV V.step ((List.range h).flatMap fun (h' : Nat) => plansFrom T l m (X ++ [(h' : Int)])) s = (false, s1)

section
variable {σ : Type} {V : Visitor σ} {T N m : Nat} {l : List Sp} {X : List Int} {L : List Nat} {bh ha : Nat} {s s1 : σ} {w wr w' : World} {h : Nat}

theorem Rnd.size (hr : Rnd V T N m l X L bh ha s s1 w wr h) : w.heap.size + 2 ≤ wr.heap.size := hr.ivar.lt

theorem Rnd.stay {B0 : Nat} (hr : Rnd V T N m l X L bh ha s s1 w wr h) (hV : V.Ok T N l B0) (hh : B0 ≤ bh) (hha : B0 ≤ ha) (hc : Chg (fun _ => False) wr w') : Rnd V T N m l X L bh ha s s1 w w' h :=
  ⟨hr.chg.trans hc (fun _ x => x.elim), hc.blk hr.left (fun x => x), hc.blk hr.ivar (fun x => x), hr.hours.chg hc (fun x => x) (fun x => x),
   hV.stab bh ha s1 _ _ hh hha hr.inv (hc.mono (fun _ x => x.elim)), hr.run⟩

theorem run_next (hr : runV V.step ((List.range h).flatMap fun (h' : Nat) => plansFrom T l m (X ++ [(h' : Int)])) s = (false, s1)) :
    runV V.step ((List.range (h + 1)).flatMap fun (h' : Nat) => plansFrom T l m (X ++ [(h' : Int)])) s = runV V.step (plansFrom T l m (X ++ [(h : Int)])) s1 := by
  rw [List.range_succ, List.flatMap_append, runV_append, hr]
  simp

theorem Rnd.skip (hr : Rnd V T N m l X L bh ha s s1 w wr h) (h0 : plansFrom T l m (X ++ [(h : Int)]) = []) : Rnd V T N m l X L bh ha s s1 w wr (h + 1) :=
  ⟨hr.chg, hr.left, hr.ivar, hr.hours, hr.inv, by rw [run_next hr.run, h0]; rfl⟩

theorem Rnd.called (hr : Rnd V T N m l X L bh ha s s1 w wr h) {W : World} (hc : Chg (fun k => k = ha) wr W) (h3 : Chg (fun k => V.Own k ∨ k = bh ∨ k = ha) W w') : Chg (fun k => V.Own k ∨ k = bh ∨ k = ha) w w' :=
  hr.chg.trans ((hc.mono (S' := fun k => V.Own k ∨ k = bh ∨ k = ha) (fun k hk => .inr (.inr hk))).trans h3 (fun _ x => .inl x)) (fun _ x => .inl x)

/-- Behind the call: the hours after h were tried, and the visitor did not answer true. -/
theorem Rnd.next {B0 : Nat} (hr : Rnd V T N m l X L bh ha s s1 w wr h) (hV : V.Ok T N l B0) (hB : B0 ≤ w.heap.size) {s2 : σ} {W : World} (hbl : bh < w.heap.size ∧ ha < w.heap.size)
    (hc : Chg (fun k => k = ha) wr W) (hrun : runV V.step (plansFrom T l m (X ++ [(h : Int)])) s1 = (false, s2))
    (h1 : V.Inv bh ha s2 w') (h2 : Hours w' bh ha N (X ++ [(h : Int)]).length (X ++ [(h : Int)])) (h3 : Chg (fun k => V.Own k ∨ k = bh ∨ k = ha) W w') : Rnd V T N m l X L bh ha s s2 w w' (h + 1) := by
  have hcc : Chg (fun k => V.Own k ∨ k = bh ∨ k = ha) wr w' := (hc.mono (S' := fun k => V.Own k ∨ k = bh ∨ k = ha) (fun k hk => .inr (.inr hk))).trans h3 (fun _ x => .inl x)
  have hno : ∀ k, w.heap.size ≤ k → ¬ (V.Own k ∨ k = bh ∨ k = ha) := fun k hk1 hk => by
    rcases hk with hk | hk | hk
    · have := hV.own k hk; omega
    · omega
    · omega
  refine ⟨hr.called hc h3, hcc.blk hr.left (hno _ (Nat.le_refl _)), hcc.blk hr.ivar (hno _ (by omega)), ?_, h1, by rw [run_next hr.run, hrun]⟩
  rw [show X.length + 1 = (X ++ [(h : Int)]).length by simp]
  exact h2.front

theorem Hours.put (hH : Hours wr bh ha N (X.length + 1) X) (hne : bh ≠ ha) (hX : X.length < N) (h : Int) : Hours (wr.setCell ⟨ha, X.length, none⟩ (.int .i64 h)) bh ha N (X ++ [h]).length (X ++ [h]) := by
  obtain ⟨rest, hb, hl⟩ := hH.row
  refine ⟨?_, by rw [World.frozen?_setCell]; exact hH.free, rest.drop 1, ?_, by simp; omega⟩
  · rw [World.cell?_setCell_other _ _ _ _ (fun e => hne (congrArg Addr.block e).symm), hH.var]; simp
  · have h1 := hb.set X.length (.int .i64 h)
    rw [List.set_append_right _ _ (by simp)] at h1
    rcases rest with _ | ⟨r0, rest⟩
    · simp at hl; omega
    · simpa using h1

theorem Hours.pop {n : Nat} (hH : Hours wr bh ha N n X) (hne : bh ≠ ha) (n' : Nat) : Hours (wr.setCell ⟨bh, 0, none⟩ (.slice (some ⟨ha, 0, none⟩) n' N)) bh ha N n' X := by
  obtain ⟨rest, hb, hl⟩ := hH.row
  exact ⟨World.cell?_setCell_same _ _ _ hH.var, by rw [World.frozen?_setCell]; exact hH.free, rest, hb.setOther hne _, hl⟩

/-- The end: what the search hands on. -/
theorem EPost.mk' {B0 : Nat} {pl : List (List Int)} {b : Bool} {s2 : σ} (hV : V.Ok T N l B0) (hh : B0 ≤ bh) (hha : B0 ≤ ha) (hrun : runV V.step pl s = (b, s2)) (hne : bh ≠ ha) {n : Nat}
    (hI : V.Inv bh ha s2 wr) (hH : Hours wr bh ha N n X) (hc : Chg (fun k => V.Own k ∨ k = bh ∨ k = ha) w wr) :
    EPost V pl bh ha N X s w (.returned (.bool b)) (wr.setCell ⟨bh, 0, none⟩ (.slice (some ⟨ha, 0, none⟩) X.length N)) := by
  unfold EPost
  rw [hrun]
  exact ⟨rfl, hV.stab bh ha s2 _ _ hh hha hI ((Chg.refl _ wr).setCell (.inl (.inl rfl)) _), hH.pop hne _, hc.setCell (.inl (.inr (.inl rfl))) _⟩

theorem run_hit {pre post : List (List Int)} {s2 : σ} {mid : List (List Int)} (h1 : runV V.step pre s = (false, s1)) (h2 : runV V.step mid s1 = (true, s2)) : runV V.step (pre ++ (mid ++ post)) s = (true, s2) := by
  rw [runV_append, h1]
  simp only [Bool.false_eq_true, if_false]
  rw [runV_append, h2]
  rfl

theorem plans_split (hT : h < T) : plansFrom T l (m + 1) X = ((List.range h).flatMap fun (h' : Nat) => plansFrom T l m (X ++ [(h' : Int)])) ++ (plansFrom T l m (X ++ [(h : Int)]) ++ ((List.range' (h + 1) (T - (h + 1))).flatMap fun (h' : Nat) => plansFrom T l m (X ++ [(h' : Int)]))) := by
  have e : List.range T = List.range h ++ (h :: List.range' (h + 1) (T - (h + 1))) := by
    rw [List.range_eq_range', List.range_eq_range', show T = h + (T - h) by omega, ← List.range'_append_1, show h + (T - h) - (h + 1) = T - h - 1 by omega]
    congr 1
    rw [show T - h = (T - h - 1) + 1 by omega, List.range'_succ, Nat.zero_add]
    simp
  show (List.range T).flatMap (fun (h' : Nat) => plansFrom T l m (X ++ [(h' : Int)])) = _
  rw [e, List.flatMap_append, List.flatMap_cons]
end

set_option maxRecDepth 100000 in
set_option maxHeartbeats 2000000 in
theorem on_step {σ : Type} (V : Visitor σ) (T N : Nat) (l : List Sp) (B0 : Nat) (hV : V.Ok T N l B0) (bh ha bp bv bA bo p : Nat) (v : Value) (M : List Nat) (hA : ApartOk T N l M) (hN : N ≤ 6) (hT0 : 1 ≤ T) (hT : T ≤ 24)
    (d1 : bh ≠ ha) (d2 : bp ≠ bh ∧ bp ≠ ha) (d3 : bv ≠ bh ∧ bv ≠ ha) (d4 : bA ≠ bh ∧ bA ≠ ha) (d5 : bo ≠ bh ∧ bo ≠ ha) (d6 : p ≠ bh ∧ p ≠ ha) (hh0 : B0 ≤ bh) (hha0 : B0 ≤ ha) (ho : ¬ V.Own bp ∧ ¬ V.Own bv ∧ ¬ V.Own bA ∧ ¬ V.Own bo ∧ ¬ V.Own p) (m : Nat)
    (ih : ∀ X L s w, X.length + m = N → LeftOk T N M X L → GoodX T M X → Look w bh bp bv bA bo p T N v (.func (.func V.f) #[] V.caught) M → Hours w bh ha N X.length X → V.Inv bh ha s w →
      Calls Try.prog 94 #[.agg (L.map hset).toArray, .pointer (some ⟨bh, 0, none⟩), .pointer (some ⟨bp, 0, none⟩), .pointer (some ⟨bv, 0, none⟩), .pointer (some ⟨bA, 0, none⟩), .pointer (some ⟨bo, 0, none⟩)] w (EPost V (plansFrom T l m X) bh ha N X s w))
    (X : List Int) (L : List Nat) (s : σ) (w : World) (hm : X.length + (m + 1) = N) (hL : LeftOk T N M X L) (hX : GoodX T M X)
    (hK : Look w bh bp bv bA bo p T N v (.func (.func V.f) #[] V.caught) M) (hH : Hours w bh ha N X.length X) (hI : V.Inv bh ha s w) :
    Calls Try.prog 94 #[.agg (L.map hset).toArray, .pointer (some ⟨bh, 0, none⟩), .pointer (some ⟨bp, 0, none⟩), .pointer (some ⟨bv, 0, none⟩), .pointer (some ⟨bA, 0, none⟩), .pointer (some ⟨bo, 0, none⟩)] w
      (EPost V (plansFrom T l (m + 1) X) bh ha N X s w) := by
  obtain ⟨i0, hi0, hz0, hz1, hz2⟩ := info_parts info3
  have h1 := hK.pp; have h2 := hK.vv; have h3 := hK.plan.2.1; have h3' := hK.plan.1; have h4 := hH.var; have hf := hH.free
  have b1 : bp < w.heap.size := World.cell_lt h1
  have b2 : bv < w.heap.size := World.cell_lt h2
  have b3 : p < w.heap.size := World.cell_lt h3
  have b6 : bA < w.heap.size := hK.ap.lt
  have b7 : bo < w.heap.size := World.cell_lt hK.oo
  have b4 : bh < w.heap.size := World.cell_lt h4
  obtain ⟨rest, hrow, hrl⟩ := hH.row
  have b5 : ha < w.heap.size := hrow.lt
  have hq : ((X.length : Int) == (N : Int)) = false := by simp; omega
  have hXN : X.length < N := by omega
  have hmf : ∀ (fn : Fn) (first cap : Array Value) (w : World), (Instr.makeFunc fn first cap).run Try.prog w = .ok (.func fn first cap) w := fun _ _ _ _ => rfl
  have HI0 := Lib.hid hi0; have HZ1 := Lib.hid hz1
  have Hm := Lib.hid hm; have HX := Lib.hid hX; have HL := Lib.hid hL; have HV := Lib.hid hV; have HI := Lib.hid hI; have HH := Lib.hid hH; have HK := Lib.hid hK; have HA := Lib.hid hA; have IH := Lib.hid ih
  have HO := Lib.hid ho; have HR := Lib.hid hrow; have HRL := Lib.hid hrl
  clear hm hX hL hV hI hH hK hA ih ho hrow hrl hi0 hz0 hz1 hz2
  go_enter_defers Try.func94, Try.ntmps94
  go_wp2
  go_step3
  go_wp2
  go_quiet (fail)
  have hg : Chg (fun _ => False) w (((w.alloc (Obj.cells (L.map hset).toArray 134)).alloc (Obj.cells #[Value.int IntKind.i64 X.length] 3)).drewN nq) := (((Chg.refl _ w).alloc _).alloc _).drewN nq
  have hgB : Blk (((w.alloc (Obj.cells (L.map hset).toArray 134)).alloc (Obj.cells #[Value.int IntKind.i64 X.length] 3)).drewN nq) w.heap.size 134 (L.map hset) := ((Blk.new w (L.map hset).toArray 134).alloc _).drewN nq
  have hgI : Blk (((w.alloc (Obj.cells (L.map hset).toArray 134)).alloc (Obj.cells #[Value.int IntKind.i64 X.length] 3)).drewN nq) (w.heap.size + 1) 3 [Value.int IntKind.i64 X.length] := by
    have := (Blk.new (w.alloc (Obj.cells (L.map hset).toArray 134)) #[Value.int IntKind.i64 X.length] 3).drewN nq
    rwa [World.size_alloc] at this
  have hsize : (((w.alloc (Obj.cells (L.map hset).toArray 134)).alloc (Obj.cells #[Value.int IntKind.i64 X.length] 3)).drewN nq).heap.size = w.heap.size + 2 := by simp
  generalize hW : (((w.alloc (Obj.cells (L.map hset).toArray 134)).alloc (Obj.cells #[Value.int IntKind.i64 X.length] 3)).drewN nq) = W0 at hg hgB hgI hsize ⊢
  clear hW
  have HS := Lib.hid hsize; clear hsize
  have f1 := hg.cell_some h4 (fun x => x)
  have hga := hg.alloc (Obj.cells #[Value.int IntKind.i64 0] 3)
  have key : Hid (∀ W1, Chg (fun k => k = ha) (W0.alloc (Obj.cells #[Value.int IntKind.i64 0] 3)) W1 → W1.cell? ⟨bh, 0, none⟩ = some (.slice (some ⟨ha, 0, none⟩) X.length N) ∧ W1.frozen? ⟨bh, 0, none⟩ = false) := fun W1 hC =>
    ⟨hC.cell_some (hga.cell_some h4 (fun x => x)) d1, (hC.frozen (p := ⟨bh, 0, none⟩) (Nat.lt_of_lt_of_le b4 hga.size) d1).trans ((hga.frozen (p := ⟨bh, 0, none⟩) b4 (fun x => x)).trans hf)⟩
  have hga' := Lib.hid hga; clear hga
  go_wp2_with (at_builtin; (refine wpList_append_blk rfl (.tmp 23) (.tmp 24) 40 rfl 3 i0 1 Try.underlying40 HI0.out HZ1.out ha X.length N _ ((hg.alloc _).blk HR.out (fun x => x)) rfl _ 1 1 [Value.int .i64 0] rfl rfl ?c2 ?c3 ?c4 ?c5 ?_; rotate_left 4; intro W1 hB1 hC1; obtain ⟨e1, e2⟩ := key.out _ hC1; have hb1 := Lib.hid hB1; have hc1 := Lib.hid hC1; clear hB1 hC1))
  case c2 =>
    intro j u hu
    rcases j with _ | j
    · simp at hu; subst hu; go_simp
    · simp at hu
  case c3 => simp [Value.oneCell']
  case c4 => omega
  case c5 => have := HRL.out; simp; omega
  have hr0 : Rnd V T N m l X L bh ha s s w (W1.setCell { block := bh, off := 0 } (Value.slice (some { block := ha, off := 0 }) (X.length + 1) N)) 0 := by
    have hB1 := hb1.out; have hC1 := hc1.out; have hga := hga'.out
    have hsz := HS.out
    have hC2 : Chg (fun k => k = bh ∨ k = ha) w (W1.setCell { block := bh, off := 0 } (Value.slice (some { block := ha, off := 0 }) (X.length + 1) N)) :=
      ((hga.mono (S' := fun k => k = bh ∨ k = ha) (fun _ x => x.elim)).trans hC1 (fun k hk => .inl (.inr hk))).setCell (.inl (.inl rfl)) _
    have hI2 := HV.out.stab bh ha s _ _ hh0 hha0 HI.out hC2
    refine ⟨hC2.mono (fun k hk => .inr hk), ?_, ?_, ⟨?_, ?_, Value.int .i64 0 :: rest.drop 1, ?_, ?_⟩, hI2, ?_⟩
    · exact (hC1.blk (hgB.alloc _) (by omega)).setOther (by simp; omega) _
    · exact (hC1.blk (hgI.alloc _) (by omega)).setOther (by simp; omega) _
    · exact World.cell?_setCell_same _ _ _ e1
    · rw [World.frozen?_setCell]; exact e2
    · have hB2 := hB1.setOther (a := { block := bh, off := 0 }) d1 (Value.slice (some { block := ha, off := 0 }) (X.length + 1) N)
      have ev : (X.map (Value.int .i64) ++ rest).take (X.length * 1) ++ [Value.int .i64 0] ++ (X.map (Value.int .i64) ++ rest).drop (X.length * 1 + [Value.int .i64 0].length) = X.map (Value.int .i64) ++ Value.int .i64 0 :: rest.drop 1 := by
        rw [Nat.mul_one, List.take_left' (by simp), List.drop_append, List.drop_of_length_le (by simp)]
        simp
      rwa [ev] at hB2
    · have := HRL.out; simp; omega
    · rfl
  have hNl : ∀ k, ¬ V.Own k → k ≠ bh ∧ k ≠ ha → ¬ (V.Own k ∨ k = bh ∨ k = ha) := fun k h1 h2 h3 => by rcases h3 with h | h | h; exact h1 h; exact h2.1 h; exact h2.2 h
  have hNL := Lib.hid hNl; clear hNl
  have hK2 := HK.out.chg hr0.chg (hNL.out _ HO.out.1 d2) (hNL.out _ HO.out.2.1 d3) (hNL.out _ HO.out.2.2.1 d4) (hNL.out _ HO.out.2.2.2.1 d5) (hNL.out _ HO.out.2.2.2.2 d6)
  generalize hW2 : W1.setCell { block := bh, off := 0 } (Value.slice (some { block := ha, off := 0 }) (X.length + 1) N) = W2 at hr0 hK2 ⊢
  clear hW2 e1 e2 hb1 hc1 hga' HR HRL hg hgB hgI HS h1 h2 h3 h3' h4 hf f1 key
  have g1 := hK2.pp; have g2 := hK2.plan.1
  have hR0 := Lib.hid hr0; have HK2 := Lib.hid hK2; clear hr0 hK2
  go_step3
  go_wp2
  clear g1 g2 HK2
  go_loopg [31] T (fun g i wr => ∃ h s1, h ≤ T ∧ g = T - h ∧ i = .int .i64 (h : Nat) ∧ Rnd V T N m l X L bh ha s s1 w wr h)
  case atStart => exact ⟨0, s, by omega, rfl, rfl, hR0.out⟩
  case round =>
    clear hR0
    obtain ⟨h, s1, hh, rfl, rfl, hr⟩ := hrel
    have hK3 := HK.out.chg hr.chg (hNL.out _ HO.out.1 d2) (hNL.out _ HO.out.2.1 d3) (hNL.out _ HO.out.2.2.1 d4) (hNL.out _ HO.out.2.2.2.1 d5) (hNL.out _ HO.out.2.2.2.2 d6)
    have hsz := hr.size
    have g1 := hK3.pp; have g2 := hK3.plan.1; have g3 := hK3.plan.2.1; have g4 := hK3.oo
    have gi := hr.ivar.cell_some (i := 0) rfl
    have hlen := HL.out.len
    obtain ⟨lv, hlv⟩ : ∃ lv, L.getD X.length 0 = lv := ⟨_, rfl⟩
    have gl := hr.left.cell_some (i := X.length) (v := .int .u32 (lv : Nat)) (by rw [List.getElem?_map, ← hlv, List.getD_eq_getElem?_getD, List.getElem?_eq_getElem (by omega)]; rfl)
    have hLs : lv < 2 ^ T := by rw [← hlv]; exact HL.out.small _ (by rw [List.getD_eq_getElem?_getD, List.getElem?_eq_getElem (by omega)]; exact List.getElem_mem _)
    have hp24 := pow_small (t := T) (by omega)
    have HK3 := Lib.hid hK3; have HLEN := Lib.hid hlen; have HLV := Lib.hid hlv
    clear hK3 hlen hlv
    by_cases hht : h < T
    · have hand := and_bit_int (a := lv) (c := h) (by omega) (by omega)
      by_cases hbit : lv.testBit h = true
      · have htest : (((lv &&& 2 ^ h : Nat) : Int) == 0) = false := by have := and_bit_ne hbit; rw [bne_iff_ne] at this; simpa using this
        have HB := Lib.hid hbit; clear hbit
        have HZ6 := Lib.hid (show (Try.prog.info? 134).map (·.size) = some (L.map hset).length by rw [show (L.map hset).length = 6 by simp [HLEN.out]]; kernel_rfl)
        have HONE := Lib.hid (show ∀ v ∈ L.map hset, v.oneCell' = true by intro v hv; obtain ⟨x, _, rfl⟩ := List.mem_map.1 hv; rfl)
        go_wp2
        go_quiet (fail)
        have hr4 := hr.stay HV.out hh0 hha0 ((Chg.refl _ wr).drewN nq)
        have HK4 := HK3.out.chg (S := fun _ => False) ((Chg.refl _ wr).drewN nq) (fun x => x) (fun x => x) (fun x => x) (fun x => x) (fun x => x)
        generalize hwq : wr.drewN nq = wq at hr4 HK4 ⊢
        clear hwq hr g1 g2 g3 g4 gi gl HK3
        have hsq := hr4.size
        have HR4 := Lib.hid hr4; have hK4 := Lib.hid HK4; have HLW := Lib.hid hr4.left; clear hr4 HK4
        have key4 : Hid (∀ o W, Chg (fun k => k = wq.heap.size) (wq.alloc o) W → Chg (fun _ => False) wq W) := fun o W hc => ((Chg.refl (fun _ => False) wq).alloc o).trans hc (fun k hk => .inr (by omega))
        have rel5 : Hid (∀ W, Chg (fun _ => False) wq W → Rnd V T N m l X L bh ha s s1 w W h ∧ Look W bh bp bv bA bo p T N v (.func (.func V.f) #[] V.caught) M) := fun W hc => ⟨HR4.out.stay HV.out hh0 hha0 hc, hK4.out.chg hc (fun x => x) (fun x => x) (fun x => x) (fun x => x) (fun x => x)⟩
        go_wp2_with (first | (refine wpList_load_blk rfl 134 (.tmp 6) rfl w.heap.size rfl 134 _ _ HLW.out Try.underlying134 rfl HZ6.out ?_) | (refine wpList_store_blk rfl 134 (.tmp 10) (.tmp 41) rfl wq.heap.size _ rfl rfl 134 _ (Blk.new wq _ 134) HZ6.out (by simp [HLEN.out]) HONE.out ?_; intro W4 hB4 hC4; have hc4 := Lib.hid (key4.out _ W4 hC4); clear hC4; have gi := (rel5.out W4 hc4.out).1.ivar.cell_some (i := 0) rfl; have g1 := (rel5.out W4 hc4.out).2.pp; have g3 := (rel5.out W4 hc4.out).2.plan.2.1; have hb4 := Lib.hid hB4; clear hB4))
        go_loopg [11] (N - (X.length + 1)) (fun g i wx => ∃ kk R, X.length + 1 ≤ kk ∧ kk ≤ N ∧ g = N - kk ∧ i = .int .i64 (kk : Nat) ∧ Chg (fun _ => False) wq wx ∧ Blk wx wq.heap.size 134 (R.map hset) ∧ RestOk T N M X h L R kk)
        case atStart => exact ⟨X.length + 1, L, Nat.le_refl _, by omega, by omega, by go_num, hc4.out, hb4.out, RestOk.start HL.out⟩
        case round =>
          clear gi g1 g3 hb4 hc4
          obtain ⟨kk, R, hk1, hk2, rfl, rfl, hC, hB5, hR⟩ := hrel
          obtain ⟨r5, k5⟩ := rel5.out _ hC
          have g1 := k5.pp; have g2 := k5.plan.1; have g3 := k5.plan.2.1; have g4 := k5.oo; have gi := r5.ivar.cell_some (i := 0) rfl
          by_cases hkN : kk < N
          · obtain ⟨rv, hrv⟩ : ∃ rv, R.getD kk 0 = rv := ⟨_, rfl⟩
            have hrl := hR.len
            have hr6 : wr.cell? ⟨wq.heap.size, kk, none⟩ = some (.int .u32 (rv : Nat)) := hB5.cell_some (by rw [List.getElem?_map, ← hrv, List.getD_eq_getElem?_getD, List.getElem?_eq_getElem (by omega)]; rfl)
            have hrs : rv < 2 ^ T := by rw [← hrv]; exact hR.small _ (by rw [List.getD_eq_getElem?_getD, List.getElem?_eq_getElem (by omega)]; exact List.getElem_mem _)
            have ha6 : wr.cell? ⟨bA, X.length * 6 + kk, none⟩ = some (.int .u32 (at6 M X.length kk : Nat)) := k5.ap.cell_some (by rw [List.getElem?_map, at6_get (by omega) (by omega) HA.out.small.1]; rfl)
            have hat := HA.out.small.at (i := X.length) (j := kk) (by omega) (by omega)
            have hand2 := u32_and_nat rv (trn T (at6 M X.length kk) (h % T)) (by omega) (by have := trn_lt (s := at6 M X.length kk) (k := h % T) hT; omega)
            have hfr := hB5.free kk
            have hmod : ((h : Int) % (T : Int)).toNat = h % T := by rw [← Int.natCast_emod, Int.toNat_natCast]
            have hstep0 := hR.step (by omega) hT
            rw [hmod, hrv] at hstep0
            have hstep := Lib.hid hstep0
            have HRV := Lib.hid hrv; have HRR := Lib.hid hR; have HC5 := Lib.hid hC; have HB5 := Lib.hid hB5; have R5 := Lib.hid r5; have K5 := Lib.hid k5; have HRLEN := Lib.hid hrl
            clear hrv hR hC hB5 r5 k5 hrl g4 hstep0 hmod
            have hset6 : Hid (∀ n, Blk ((wr.drewN n).setCell { block := wq.heap.size, off := kk } (Value.int IntKind.u32 ((rv &&& trn T (at6 M X.length kk) (h % T) : Nat) : Int))) wq.heap.size 134 ((R.set kk (rv &&& trn T (at6 M X.length kk) (h % T))).map hset)) := fun n => by
              have := (HB5.out.drewN n).set kk (hset (rv &&& trn T (at6 M X.length kk) (h % T)))
              rwa [← List.map_set] at this
            have hchg6 : Hid (∀ n v, Chg (fun _ => False) wq ((wr.drewN n).setCell { block := wq.heap.size, off := kk } v)) := fun n v => (HC5.out.drewN n).setCell (.inr (Nat.le_refl _)) v
            by_cases hz : rv &&& trn T (at6 M X.length kk) (h % T) = 0
            · have hzt : (((rv &&& trn T (at6 M X.length kk) (h % T) : Nat) : Int) == 0) = true := by rw [hz]; rfl
              have HZ := Lib.hid hz; clear hz
              go_wp2
              refine wp_region_drewN_tail 13 (by kernel_rfl) (by kernel_rfl) ?_
              simp only [List.take_succ_cons, List.take_zero, List.drop_succ_cons, List.drop_zero]
              repeat (go_big_quiet_step ((go_at_call 96; exact Calls.quiet_of (turned_any T (at6 M X.length kk) _ _ _ (by omega) (by omega) (by omega) (by omega) (by omega) (by go_simp)))))
              refine wpQuiet_nil ?_
              rintro _ ⟨nr, rfl⟩
              have e1 := World.cell?_setCell_same (wr.drewN nr) { block := wq.heap.size, off := kk } (Value.int IntKind.u32 ((rv &&& trn T (at6 M X.length kk) (h % T) : Nat) : Int)) (u := Value.int IntKind.u32 (rv : Int)) hr6
              go_wp2
              go_roundg (T - (h + 1))
              case measure => omega
              case rel =>
                refine ⟨h + 1, s1, by omega, rfl, by go_num, (rel5.out _ (hchg6.out nr _)).1.skip ?_⟩
                refine hstep.out.none HL.out HA.out HX.out.rng (by omega) hT hN hht (by omega) hkN Hm.out ?_
                have := HRLEN.out
                rw [List.getD_eq_getElem?_getD, List.getElem?_set, if_pos rfl, if_pos (by omega), HZ.out]; rfl
            · have hzt : (((rv &&& trn T (at6 M X.length kk) (h % T) : Nat) : Int) == 0) = false := by rw [beq_eq_false_iff_ne]; omega
              have HZ := Lib.hid hz; clear hz
              go_wp2
              refine wp_region_drewN_tail 13 (by kernel_rfl) (by kernel_rfl) ?_
              simp only [List.take_succ_cons, List.take_zero, List.drop_succ_cons, List.drop_zero]
              repeat (go_big_quiet_step ((go_at_call 96; exact Calls.quiet_of (turned_any T (at6 M X.length kk) _ _ _ (by omega) (by omega) (by omega) (by omega) (by omega) (by go_simp)))))
              refine wpQuiet_nil ?_
              rintro _ ⟨nr, rfl⟩
              have e1 := World.cell?_setCell_same (wr.drewN nr) { block := wq.heap.size, off := kk } (Value.int IntKind.u32 ((rv &&& trn T (at6 M X.length kk) (h % T) : Nat) : Int)) (u := Value.int IntKind.u32 (rv : Int)) hr6
              go_wp2
              go_roundg (N - (kk + 1))
              case measure => omega
              case rel => exact ⟨kk + 1, _, by omega, by omega, rfl, by go_num, hchg6.out nr _, hset6.out nr, hstep.out⟩
          · obtain rfl : kk = N := by omega
            have hi2 := r5.hours.var
            have hrowf : wr.frozen? ⟨ha, X.length, none⟩ = false := by obtain ⟨rest', hb', _⟩ := r5.hours.row; exact hb'.free _
            have hrowc : ∃ u, wr.cell? ⟨ha, X.length, none⟩ = some u := by
              obtain ⟨rest', hb', hl'⟩ := r5.hours.row
              rw [hb'.cell]
              exact ⟨_, List.getElem?_eq_getElem (by simp; omega)⟩
            obtain ⟨u0, hu0⟩ := hrowc
            have HR6 := Lib.hid hR; have HC6 := Lib.hid hC; have HB6 := Lib.hid hB5; have R6 := Lib.hid r5; have K6 := Lib.hid k5
            clear hR hC hB5 r5 k5
            have HZR := Lib.hid (show (Try.prog.info? 134).map (·.size) = some (R.map hset).length by rw [show (R.map hset).length = 6 by simp [HR6.out.len]]; kernel_rfl)
            have hneq : ha ≠ wq.heap.size := by omega
            go_wp2_with (first | (refine wpList_load_blk rfl 134 (.tmp 10) rfl wq.heap.size rfl 134 _ _ (HB6.out.setOther hneq _) Try.underlying134 rfl HZR.out ?_))
            refine (IH.out (X ++ [(h : Int)]) R s1 _ (by have := Hm.out; simp; omega) ?i1 ?i2 ?i3 ?i4 ?i5).mono ?_
            case i1 => exact HR6.out.left HL.out HA.out (by omega) hT (by omega) hht
            case i2 => exact HX.out.snoc HL.out hht (by omega) (by rw [HLV.out]; exact HB.out)
            case i3 => exact K6.out.chg (S := fun k => k = ha) ((Chg.refl (fun k => k = ha) wr).setCell (.inl rfl) _) d2.2 d3.2 d4.2 d5.2 d6.2
            case i4 => exact R6.out.hours.put d1 (by omega) h
            case i5 => exact HV.out.stab bh ha s1 _ _ hh0 hha0 R6.out.inv ((Chg.refl _ wr).setCell (.inl (.inr rfl)) _)
            rcases hrv : runV V.step (plansFrom T l m (X ++ [(h : Int)])) s1 with ⟨b, s2⟩
            have HRV := Lib.hid hrv
            unfold EPost
            rw [hrv]
            clear hrv
            rintro e w' ⟨rfl, i1, i2, i3⟩
            cases b
            · go_wp2
              go_roundg (T - (h + 1))
              case measure => omega
              case rel => exact ⟨h + 1, s2, by omega, rfl, by go_num, R6.out.next HV.out (by omega) ⟨b4, b5⟩ ((Chg.refl (fun k => k = ha) wr).setCell (.inl rfl) _) HRV.out i1 i2 i3⟩
            · have hcall := R6.out.called ((Chg.refl (fun k => k = ha) wr).setCell (a := { block := ha, off := X.length }) (.inl rfl) _) i3
              have hgi := (i3.blk (R6.out.ivar.setOther (a := { block := ha, off := X.length }) (by simp; omega) (Value.int IntKind.i64 h)) (fun x => by
                rcases x with x | x | x
                · exact absurd (HV.out.own _ x) (by omega)
                · omega
                · omega)).cell_some (i := 0) rfl
              have hgv := i2.var; have hgf := i2.free
              have I1 := Lib.hid i1; have I2 := Lib.hid i2; have HC7 := Lib.hid hcall
              clear i1 i2 i3 hcall
              have hXl : (X ++ [(h : Int)]).length = X.length + 1 := by simp
              rw [hXl] at hgv
              clear hXl
              go_wp2
              rw [Exit.noGoto_ret]
              refine leaves_cons (f := 95) (args := #[.pointer (some ⟨bh, 0, none⟩), .pointer (some ⟨w.heap.size + 1, 0, none⟩)]) (by simp) (by simp [go_sem]) ?_
              refine (pop_deferred bh (w.heap.size + 1) ha (X.length + 1) X.length kk .returning _ hgv hgi hgf (by omega) (by omega) hN).mono ?_
              rintro e u' w'' ⟨rfl, rfl, rfl⟩
              exact ⟨_, results_tmp rfl _ _ _, EPost.mk' (pl := plansFrom T l (m + 1) X) (b := true) HV.out hh0 hha0 (by rw [plans_split hht]; exact run_hit R6.out.run HRV.out) d1 I1.out I2.out.front HC7.out⟩
      · have htest : (((lv &&& 2 ^ h : Nat) : Int) == 0) = true := by have := and_bit_eq (a := lv) (c := h) (by simpa using hbit); simpa using this
        have HB := Lib.hid hbit; clear hbit
        go_wp2
        go_quiet (fail)
        go_wp2
        go_roundg (T - (h + 1))
        case measure => omega
        case rel => exact ⟨h + 1, s1, by omega, rfl, by go_num, (hr.stay HV.out hh0 hha0 ((Chg.refl _ wr).drewN nq)).skip (prune_bit HL.out HA.out HX.out.rng (by omega) Hm.out hht (by rw [HLV.out]; simpa using HB.out))⟩
    · obtain rfl : h = T := by omega
      have hgi := hr.hours.var; have hgf := hr.hours.free
      have HRR := Lib.hid hr; clear hr
      go_wp2
      rw [Exit.noGoto_ret]
      refine leaves_cons (f := 95) (args := #[.pointer (some ⟨bh, 0, none⟩), .pointer (some ⟨w.heap.size + 1, 0, none⟩)]) (by simp) (by simp [go_sem]) ?_
      refine (pop_deferred bh (w.heap.size + 1) ha (X.length + 1) X.length N .returning _ hgi gi hgf (by omega) (by omega) hN).mono ?_
      rintro e u' w'' ⟨rfl, rfl, rfl⟩
      exact ⟨_, results_tmp rfl _ _ _, EPost.mk' (pl := plansFrom h l (m + 1) X) (b := false) HV.out hh0 hha0 HRR.out.run d1 HRR.out.inv HRR.out.hours HRR.out.chg⟩

set_option maxHeartbeats 1000000 in
theorem on_any {σ : Type} (V : Visitor σ) (T N : Nat) (l : List Sp) (B0 : Nat) (hV : V.Ok T N l B0) (bh ha bp bv bA bo p : Nat) (v : Value) (M : List Nat) (hA : ApartOk T N l M) (hN0 : 1 ≤ N) (hN : N ≤ 6) (hT0 : 1 ≤ T) (hT : T ≤ 24)
    (hok : ∀ s ∈ l, 0 ≤ s.src ∧ s.src < N ∧ 0 ≤ s.dst ∧ s.dst < N ∧ s.src ≠ s.dst)
    (d1 : bh ≠ ha) (d2 : bp ≠ bh ∧ bp ≠ ha) (d3 : bv ≠ bh ∧ bv ≠ ha) (d4 : bA ≠ bh ∧ bA ≠ ha) (d5 : bo ≠ bh ∧ bo ≠ ha) (d6 : p ≠ bh ∧ p ≠ ha) (hh0 : B0 ≤ bh) (hha0 : B0 ≤ ha) (ho : ¬ V.Own bp ∧ ¬ V.Own bv ∧ ¬ V.Own bA ∧ ¬ V.Own bo ∧ ¬ V.Own p) (m : Nat) :
    ∀ X L s w, X.length + m = N → LeftOk T N M X L → GoodX T M X → Look w bh bp bv bA bo p T N v (.func (.func V.f) #[] V.caught) M → Hours w bh ha N X.length X → V.Inv bh ha s w →
      Calls Try.prog 94 #[.agg (L.map hset).toArray, .pointer (some ⟨bh, 0, none⟩), .pointer (some ⟨bp, 0, none⟩), .pointer (some ⟨bv, 0, none⟩), .pointer (some ⟨bA, 0, none⟩), .pointer (some ⟨bo, 0, none⟩)] w (EPost V (plansFrom T l m X) bh ha N X s w) := by
  induction m with
  | zero =>
    intro X L s w hm hL hX hK hH hI
    have hXN : X.length = N := by omega
    have hpl : plansFrom T l 0 X = [X] := by
      unfold plansFrom
      rw [if_pos (hX.ok hA hXN hN0 (by omega) hok)]
    rw [hpl]
    exact on_leaf V T N l B0 hV bh ha bp bv bA bo p v M X L s w hK hH hI hXN hX.rng (hX.ok hA hXN hN0 (by omega) hok) hN hh0 hha0
  | succ m ih =>
    intro X L s w hm hL hX hK hH hI
    exact on_step V T N l B0 hV bh ha bp bv bA bo p v M hA hN hT0 hT d1 d2 d3 d4 d5 d6 hh0 hha0 ho m ih X L s w hm hL hX hK hH hI
end Go.Proofs.Ytmmpdfcnenljhaa.Turn
