/- A visitor of plans, and the laws on memory that the search wants. No condition. -/
import Derived.Test.YtmmpdfcnenljhaaT3
import Derived.Defers
import Derived.WalkMore
set_option linter.unusedVariables false
namespace Go
section
variable {P : Program} {w : World} {ops : Array Oper} {rest : List Oper} {o : Oper} {a : Act} {Q : Exit → Act → World → Prop}
/-- An append that fits, to a row that is known whole. -/
theorem wpList_append_row {ops : Array Oper} {rest : List Oper} {o : Oper} {a : Act} {Q : Exit → Act → World → Prop} (hgd : o.guard = none) (s x : Operand) (t : TypeId)
    (ho : o.op = .call { callee := .builtin .append, args := #[s, x], argTypes := #[t, t] })
    (e : TypeId) (i : TypeInfo) (sz : Nat) (ht : P.underlying t = some (.slice e)) (hi : P.info? e = some i) (hsz : i.size = sz) (g n cap : Nat) (cur : Array Value) (hg : w.heap[g]? = some (.cells cur e (0, 0)))
    (hs : a.eval s = .slice (some ⟨g, 0, none⟩) n cap)
    (ad : Addr) (m c : Nat) (news : List Value) (hx : a.eval x = .slice (some ad) m c) (hl : news.length = m * sz) (hnews : ∀ j u, news[j]? = some u → w.cell? (ad.add j) = some u) (h1 : ∀ u ∈ news, u.oneCell' = true)
    (hroom : n + m ≤ cap) (hfit : n * sz + news.length ≤ cur.size)
    (h : wpList P ops Q rest (a.put o.dst (.slice (some ⟨g, 0, none⟩) (n + m) cap)) (w.setRow g (cur.toList.take (n * sz) ++ news ++ cur.toList.drop (n * sz + news.length)).toArray)) : wpList P ops Q (o :: rest) a w := by
  subst hsz
  refine wpList_plain hgd fun K hK => ?_
  have hr := run_append_room (P := P) w t o.type e i ht hi g n cap cur hg ad m c news hl hnews h1 hroom hfit
  unfold Oper.wp execOp
  simp only [ho, resolve, invoke, builtin, Sem.run_bind, Sem.run_pure, Result.andThen_ok, List.map_toArray, List.map_cons, List.map_nil, hs, hx, hr]
  exact hK _ _ h

/-- An append that fits, the world behind it a variable. -/
theorem wpList_append_blk {P : Program} {w : World} {ops : Array Oper} {rest : List Oper} {o : Oper} {a : Act} {Q : Exit → Act → World → Prop} (hgd : o.guard = none) (s x : Operand) (t : TypeId)
    (ho : o.op = .call { callee := .builtin .append, args := #[s, x], argTypes := #[t, t] })
    (e : TypeId) (i : TypeInfo) (sz : Nat) (ht : P.underlying t = some (.slice e)) (hi : P.info? e = some i) (hsz : i.size = sz) (g n cap : Nat) (vals : List Value) (hg : Blk w g e vals)
    (hs : a.eval s = .slice (some ⟨g, 0, none⟩) n cap)
    (ad : Addr) (m c : Nat) (news : List Value) (hx : a.eval x = .slice (some ad) m c) (hl : news.length = m * sz) (hnews : ∀ j u, news[j]? = some u → w.cell? (ad.add j) = some u) (h1 : ∀ u ∈ news, u.oneCell' = true)
    (hroom : n + m ≤ cap) (hfit : n * sz + news.length ≤ vals.length)
    (h : ∀ w', Blk w' g e (vals.take (n * sz) ++ news ++ vals.drop (n * sz + news.length)) → Chg (fun k => k = g) w w' → wpList P ops Q rest (a.put o.dst (.slice (some ⟨g, 0, none⟩) (n + m) cap)) w') : wpList P ops Q (o :: rest) a w :=
  wpList_append_row hgd s x t ho e i sz ht hi hsz g n cap vals.toArray hg hs ad m c news hx hl hnews h1 hroom (by simpa using hfit)
    (h _ (hg.setRow _) ((Chg.refl (fun k => k = g) w).setRow (.inl rfl) _))
end
end Go
namespace Go.Proofs.Ytmmpdfcnenljhaa.Turn
open Go.RowKit
theorem PlanAt.chg {S : Nat → Prop} {w w' : World} {p : Nat} {t n : Int} {v : Value} (h : PlanAt w p t n v) (hc : Chg S w w') (hn : ¬ S p) : PlanAt w' p t n v :=
  ⟨hc.cell_some h.1 hn, hc.cell_some h.2.1 hn, hc.cell_some h.2.2 hn⟩

theorem SpansAt.chg {S : Nat → Prop} {w w' : World} {b off : Nat} {l : List Sp} (h : SpansAt w b off l) (hc : Chg S w w') (hn : ¬ S b) : SpansAt w' b off l := fun k hk =>
  ⟨hc.cell_some (h k hk).1 hn, hc.cell_some (h k hk).2.1 hn, hc.cell_some (h k hk).2.2.1 hn, hc.cell_some (h k hk).2.2.2 hn⟩

/-- A visitor of plans: its function, what it has caught, what it does; the blocks that it may write; what is known of the memory, beside a search whose hours lie in blocks bh and ha. -/
structure Visitor (σ : Type) where
  f : FuncId
  caught : Array Value
  step : σ → List Int → Bool × σ
  Own : Nat → Prop
  Inv : Nat → Nat → σ → World → Prop

def VPost {σ : Type} (V : Visitor σ) (bh ha : Nat) (s : σ) (X : List Int) (w : World) (e : Ending) (w' : World) : Prop :=
  e = .returned (.bool (V.step s X).1) ∧ V.Inv bh ha (V.step s X).2 w' ∧ Chg V.Own w w'

/-- The visitor keeps to its part; B0: where the search's own memory begins. -/
structure Visitor.Ok {σ : Type} (V : Visitor σ) (T N : Nat) (l : List Sp) (B0 : Nat) : Prop where
  enter : ∀ args w, (callFunc V.f args).run Try.prog w = .ok (.enter V.f args) w
  own : ∀ k, V.Own k → k < B0
  stab : ∀ bh ha s w w', B0 ≤ bh → B0 ≤ ha → V.Inv bh ha s w → Chg (fun k => k = bh ∨ k = ha) w w' → V.Inv bh ha s w'
  call : ∀ bh ha s w X c, B0 ≤ bh → B0 ≤ ha → bh < w.heap.size → ha < w.heap.size → V.Inv bh ha s w → IntsAt w ha 0 X → X.length = N → InRound T X → okPlan T l X = true → c ≤ 6 →
    Calls Try.prog V.f (#[.slice (some ⟨ha, 0, none⟩) X.length c] ++ V.caught) w (VPost V bh ha s X w)

/-- The memory of a search. -/
structure Look (w : World) (bh bp bv bA bo p T N : Nat) (v fv : Value) (M : List Nat) : Prop where
  pp : w.cell? ⟨bp, 0, none⟩ = some (.pointer (some ⟨p, 0, none⟩))
  vv : w.cell? ⟨bv, 0, none⟩ = some fv
  ap : Blk w bA 135 (M.map hset)
  oo : w.cell? ⟨bo, 0, none⟩ = some (.func (.func 94) #[] #[.pointer (some ⟨bh, 0, none⟩), .pointer (some ⟨bp, 0, none⟩), .pointer (some ⟨bv, 0, none⟩), .pointer (some ⟨bA, 0, none⟩), .pointer (some ⟨bo, 0, none⟩)])
  plan : PlanAt w p T N v

theorem Look.chg {S : Nat → Prop} {w w' : World} {bh bp bv bA bo p T N : Nat} {v fv : Value} {M : List Nat} (h : Look w bh bp bv bA bo p T N v fv M) (hc : Chg S w w')
    (h1 : ¬ S bp) (h2 : ¬ S bv) (h3 : ¬ S bA) (h4 : ¬ S bo) (h5 : ¬ S p) : Look w' bh bp bv bA bo p T N v fv M :=
  ⟨hc.cell_some h.pp h1, hc.cell_some h.vv h2, hc.blk h.ap h3, hc.cell_some h.oo h4, h.plan.chg hc h5⟩

/-- The hours so far: the variable holds n of them, the row begins with X. -/
structure Hours (w : World) (bh ha N n : Nat) (X : List Int) : Prop where
  var : w.cell? ⟨bh, 0, none⟩ = some (.slice (some ⟨ha, 0, none⟩) n N)
  free : w.frozen? ⟨bh, 0, none⟩ = false
  row : ∃ rest, Blk w ha 3 (X.map (Value.int .i64) ++ rest) ∧ X.length + rest.length = N

theorem Hours.ints {w : World} {bh ha N n : Nat} {X : List Int} (h : Hours w bh ha N n X) : IntsAt w ha 0 X := fun k hk => by
  obtain ⟨rest, hb, _⟩ := h.row
  rw [Nat.zero_add]
  exact hb.cell_some (by rw [List.getElem?_append_left (by simpa using hk)]; simp [hk])

theorem Hours.chg {S : Nat → Prop} {w w' : World} {bh ha N n : Nat} {X : List Int} (h : Hours w bh ha N n X) (hc : Chg S w w') (h1 : ¬ S bh) (h2 : ¬ S ha) : Hours w' bh ha N n X := by
  obtain ⟨rest, hb, hl⟩ := h.row
  exact ⟨hc.cell_some h.var h1, (hc.frozen (World.cell_lt h.var) h1).trans h.free, rest, hc.blk hb h2, hl⟩

/-- Fewer of them. -/
theorem Hours.front {w : World} {bh ha N n : Nat} {X : List Int} {x : Int} (h : Hours w bh ha N n (X ++ [x])) : Hours w bh ha N n X := by
  obtain ⟨rest, hb, hl⟩ := h.row
  refine ⟨h.var, h.free, Value.int .i64 x :: rest, ?_, by simp at hl ⊢; omega⟩
  simpa using hb

def EPost {σ : Type} (V : Visitor σ) (pl : List (List Int)) (bh ha N : Nat) (X : List Int) (s : σ) (w : World) (e : Ending) (w' : World) : Prop :=
  e = .returned (.bool (runV V.step pl s).1) ∧ V.Inv bh ha (runV V.step pl s).2 w' ∧ Hours w' bh ha N X.length X ∧ Chg (fun k => V.Own k ∨ k = bh ∨ k = ha) w w'

theorem pop_deferred (bh bi ha n i cap : Nat) (u : FrameMode) (w : World) (h1 : w.cell? ⟨bh, 0, none⟩ = some (.slice (some ⟨ha, 0, none⟩) n cap)) (h2 : w.cell? ⟨bi, 0, none⟩ = some (.int .i64 i)) (hf : w.frozen? ⟨bh, 0, none⟩ = false)
    (hi : i ≤ cap) (hi2 : i < cap) (hc : cap ≤ 6) :
    CallsD Try.prog 95 #[.pointer (some ⟨bh, 0, none⟩), .pointer (some ⟨bi, 0, none⟩)] u w fun e u' w' => u' = u ∧ (e = .returned (.tuple #[]) ∧ w' = w.setCell ⟨bh, 0, none⟩ (.slice (some ⟨ha, 0, none⟩) i cap)) := by
  go_enter_d Try.func95, Try.ntmps95
  go_wp2
  go_end0
  exact ⟨rfl, rfl⟩

set_option maxRecDepth 100000 in
set_option maxHeartbeats 2000000 in
theorem on_leaf {σ : Type} (V : Visitor σ) (T N : Nat) (l : List Sp) (B0 : Nat) (hV : V.Ok T N l B0) (bh ha bp bv bA bo p : Nat) (v : Value) (M : List Nat) (X : List Int) (L : List Nat) (s : σ) (w : World)
    (hK : Look w bh bp bv bA bo p T N v (.func (.func V.f) #[] V.caught) M) (hH : Hours w bh ha N X.length X) (hI : V.Inv bh ha s w) (hX : X.length = N) (hR : InRound T X) (hok : okPlan T l X = true) (hN : N ≤ 6)
    (hh : B0 ≤ bh) (hha : B0 ≤ ha) :
    Calls Try.prog 94 #[.agg (L.map hset).toArray, .pointer (some ⟨bh, 0, none⟩), .pointer (some ⟨bp, 0, none⟩), .pointer (some ⟨bv, 0, none⟩), .pointer (some ⟨bA, 0, none⟩), .pointer (some ⟨bo, 0, none⟩)] w
      (EPost V [X] bh ha N X s w) := by
  have h1 := hK.pp; have h2 := hK.vv; have h3 := hK.plan.2.1; have h4 := hH.var
  have b1 : bp < w.heap.size := World.cell_lt h1
  have b2 : bv < w.heap.size := World.cell_lt h2
  have b3 : p < w.heap.size := World.cell_lt h3
  have b4 : bh < w.heap.size := World.cell_lt h4
  have hq : ((X.length : Int) == (N : Int)) = true := by simp; omega
  have hen := hV.enter
  have HX := Lib.hid hX; have HR := Lib.hid hR; have HV := Lib.hid hV; have HI := Lib.hid hI; have HO := Lib.hid hok; have HH := Lib.hid hH; have HK := Lib.hid hK
  have b5 : ha < w.heap.size := by obtain ⟨_, hb, _⟩ := HH.out.row; exact hb.lt
  clear hX hR hV hI hok hH hK
  go_enter_defers Try.func94, Try.ntmps94
  go_wp2
  go_step3
  go_wp2
  go_quiet (fail)
  go_wp2_with fail
  have hg : Chg (fun _ => False) w (((w.alloc (Obj.cells (L.map hset).toArray 134)).alloc (Obj.cells #[Value.int IntKind.i64 X.length] 3)).drewN nq) := (((Chg.refl _ w).alloc _).alloc _).drewN nq
  have hsz := hg.size
  refine (HV.out.call bh ha s _ X N hh hha (by omega) (by omega) (HV.out.stab bh ha s _ _ hh hha HI.out (hg.mono (fun _ x => x.elim))) (HH.out.ints.chg hg (fun x => x)) HX.out HR.out HO.out hN).mono ?_
  rintro e w' ⟨rfl, h5, h6⟩
  go_wp2
  have hg2 : Chg V.Own w w' := (hg.mono (S' := V.Own) (fun _ x => x.elim)).trans h6 (fun _ x => .inl x)
  have er : runV V.step [X] s = V.step s X := by
    simp only [runV]
    by_cases hb : (V.step s X).1 = true
    · rw [if_pos hb]
    · rw [if_neg hb]
      have : (V.step s X).1 = false := by simpa using hb
      rw [← this]
  refine ⟨_, results_tmp rfl _ _ _, ?_⟩
  unfold EPost
  rw [er]
  exact ⟨rfl, h5, HH.out.chg hg2 (fun x => by have := HV.out.own _ x; omega) (fun x => by have := HV.out.own _ x; omega), hg2.mono (fun _ x => .inl x)⟩
end Go.Proofs.Ytmmpdfcnenljhaa.Turn
