/- One step of turn.each's search, by induction: it shows the visitor the plans in their order. Its conditions are its premises. -/
import Derived.Test.YtgamekcjjpjnnaaA6
set_option linter.unusedVariables false
namespace Go.Proofs.Ytgamekcjjpjnnaa
open Go.RowKit

/-- A round of the search's loop: the hours before h have been tried. -/
structure Rnd {σ : Type} (V : Visitor σ) (T N m : Nat) (l : List Sp) (X : List Int) (L : List Nat) (bh ha : Nat) (s s1 : σ) (w wr : World) (h : Nat) : Prop where
  chg : Chg (fun k => V.Own k ∨ k = bh ∨ k = ha) w wr
  left : Blk wr w.heap.size 86 (L.map hset)
  ivar : Blk wr (w.heap.size + 1) 3 [Value.int .i64 X.length]
  hours : Hours wr bh ha N (X.length + 1) X
  inv : V.Inv bh ha s1 wr
  run : runV V.step ((List.range h).flatMap fun (h' : Nat) => plansFrom T l m (X ++ [(h' : Int)])) s = (false, s1)

section
variable {σ : Type} {V : Visitor σ} {T N m : Nat} {l : List Sp} {X : List Int} {L : List Nat} {bh ha : Nat} {s s1 : σ} {w wr w' : World} {h : Nat}

theorem Rnd.size (hr : Rnd V T N m l X L bh ha s s1 w wr h) : w.heap.size + 2 ≤ wr.heap.size := hr.ivar.lt

theorem Rnd.stay {B0 : Nat} (hr : Rnd V T N m l X L bh ha s s1 w wr h) (hV : V.Ok T N l B0) (hh : B0 ≤ bh) (hha : B0 ≤ ha) (hc : Chg (fun _ => False) wr w') : Rnd V T N m l X L bh ha s s1 w w' h :=
  ⟨hr.chg.trans hc (fun _ x => x.elim), hc.blk hr.left (fun x => x), hc.blk hr.ivar (fun x => x), hr.hours.chg hc (fun x => x) (fun x => x),
   hV.stab bh ha s1 _ _ hh hha hr.inv (hc.mono (fun _ x => x.elim)), hr.run⟩

theorem run_next (hr : runV V.step ((List.range h).flatMap fun (h' : Nat) => plansFrom T l m (X ++ [(h' : Int)])) s = (false, s1)) :
    runV V.step ((List.range (h + 1)).flatMap fun (h' : Nat) => plansFrom T l m (X ++ [(h' : Int)])) s = runV V.step (plansFrom T l m (X ++ [(h : Int)])) s1 := by
  rw [List.range_succ, List.flatMap_append, runV_append, hr]
  simp

theorem Rnd.skip (hr : Rnd V T N m l X L bh ha s s1 w wr h) (h0 : plansFrom T l m (X ++ [(h : Int)]) = []) : Rnd V T N m l X L bh ha s s1 w wr (h + 1) :=
  ⟨hr.chg, hr.left, hr.ivar, hr.hours, hr.inv, by rw [run_next hr.run, h0]; rfl⟩

theorem Rnd.called (hr : Rnd V T N m l X L bh ha s s1 w wr h) {W : World} (hc : Chg (fun k => k = ha) wr W) (h3 : Chg (fun k => V.Own k ∨ k = bh ∨ k = ha) W w') : Chg (fun k => V.Own k ∨ k = bh ∨ k = ha) w w' :=
  hr.chg.trans ((hc.mono (S' := fun k => V.Own k ∨ k = bh ∨ k = ha) (fun k hk => .inr (.inr hk))).trans h3 (fun _ x => .inl x)) (fun _ x => .inl x)

/-- Behind the call: the hours after h were tried, and the visitor did not answer true. -/
theorem Rnd.next {B0 : Nat} (hr : Rnd V T N m l X L bh ha s s1 w wr h) (hV : V.Ok T N l B0) (hB : B0 ≤ w.heap.size) {s2 : σ} {W : World} (hbl : bh < w.heap.size ∧ ha < w.heap.size)
    (hc : Chg (fun k => k = ha) wr W) (hrun : runV V.step (plansFrom T l m (X ++ [(h : Int)])) s1 = (false, s2))
    (h1 : V.Inv bh ha s2 w') (h2 : Hours w' bh ha N (X ++ [(h : Int)]).length (X ++ [(h : Int)])) (h3 : Chg (fun k => V.Own k ∨ k = bh ∨ k = ha) W w') : Rnd V T N m l X L bh ha s s2 w w' (h + 1) := by
  have hcc : Chg (fun k => V.Own k ∨ k = bh ∨ k = ha) wr w' := (hc.mono (S' := fun k => V.Own k ∨ k = bh ∨ k = ha) (fun k hk => .inr (.inr hk))).trans h3 (fun _ x => .inl x)
  have hno : ∀ k, w.heap.size ≤ k → ¬ (V.Own k ∨ k = bh ∨ k = ha) := fun k hk1 hk => by
    rcases hk with hk | hk | hk
    · have := hV.own k hk; omega
    · omega
    · omega
  refine ⟨hr.called hc h3, hcc.blk hr.left (hno _ (Nat.le_refl _)), hcc.blk hr.ivar (hno _ (by omega)), ?_, h1, by rw [run_next hr.run, hrun]⟩
  rw [show X.length + 1 = (X ++ [(h : Int)]).length by simp]
  exact h2.front

theorem Hours.put (hH : Hours wr bh ha N (X.length + 1) X) (hne : bh ≠ ha) (hX : X.length < N) (h : Int) : Hours (wr.setCell ⟨ha, X.length, none⟩ (.int .i64 h)) bh ha N (X ++ [h]).length (X ++ [h]) := by
  obtain ⟨rest, hb, hl⟩ := hH.row
  refine ⟨?_, by rw [World.frozen?_setCell]; exact hH.free, rest.drop 1, ?_, by simp; omega⟩
  · rw [World.cell?_setCell_other _ _ _ _ (fun e => hne (congrArg Addr.block e).symm), hH.var]; simp
  · have h1 := hb.set X.length (.int .i64 h)
    rw [List.set_append_right _ _ (by simp)] at h1
    rcases rest with _ | ⟨r0, rest⟩
    · simp at hl; omega
    · simpa using h1

theorem Hours.pop {n : Nat} (hH : Hours wr bh ha N n X) (hne : bh ≠ ha) (n' : Nat) : Hours (wr.setCell ⟨bh, 0, none⟩ (.slice (some ⟨ha, 0, none⟩) n' N)) bh ha N n' X := by
  obtain ⟨rest, hb, hl⟩ := hH.row
  exact ⟨World.cell?_setCell_same _ _ _ hH.var, by rw [World.frozen?_setCell]; exact hH.free, rest, hb.setOther hne _, hl⟩

/-- The end: what the search hands on. -/
theorem EPost.mk' {B0 : Nat} {pl : List (List Int)} {b : Bool} {s2 : σ} (hV : V.Ok T N l B0) (hh : B0 ≤ bh) (hha : B0 ≤ ha) (hrun : runV V.step pl s = (b, s2)) (hne : bh ≠ ha) {n : Nat}
    (hI : V.Inv bh ha s2 wr) (hH : Hours wr bh ha N n X) (hc : Chg (fun k => V.Own k ∨ k = bh ∨ k = ha) w wr) :
    EPost V pl bh ha N X s w (.returned (.bool b)) (wr.setCell ⟨bh, 0, none⟩ (.slice (some ⟨ha, 0, none⟩) X.length N)) := by
  unfold EPost
  rw [hrun]
  exact ⟨rfl, hV.stab bh ha s2 _ _ hh hha hI ((Chg.refl _ wr).setCell (.inl (.inl rfl)) _), hH.pop hne _, hc.setCell (.inl (.inr (.inl rfl))) _⟩

theorem run_hit {pre post : List (List Int)} {s2 : σ} {mid : List (List Int)} (h1 : runV V.step pre s = (false, s1)) (h2 : runV V.step mid s1 = (true, s2)) : runV V.step (pre ++ (mid ++ post)) s = (true, s2) := by
  rw [runV_append, h1]
  simp only [Bool.false_eq_true, if_false]
  rw [runV_append, h2]
  rfl

theorem plans_split (hT : h < T) : plansFrom T l (m + 1) X = ((List.range h).flatMap fun (h' : Nat) => plansFrom T l m (X ++ [(h' : Int)])) ++ (plansFrom T l m (X ++ [(h : Int)]) ++ ((List.range' (h + 1) (T - (h + 1))).flatMap fun (h' : Nat) => plansFrom T l m (X ++ [(h' : Int)]))) := by
  have e : List.range T = List.range h ++ (h :: List.range' (h + 1) (T - (h + 1))) := by
    rw [List.range_eq_range', List.range_eq_range', show T = h + (T - h) by omega, ← List.range'_append_1, show h + (T - h) - (h + 1) = T - h - 1 by omega]
    congr 1
    rw [show T - h = (T - h - 1) + 1 by omega, List.range'_succ, Nat.zero_add]
    simp
  show (List.range T).flatMap (fun (h' : Nat) => plansFrom T l m (X ++ [(h' : Int)])) = _
  rw [e, List.flatMap_append, List.flatMap_cons]
end

end Go.Proofs.Ytgamekcjjpjnnaa
