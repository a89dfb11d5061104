/- The visitor of Shortest: it keeps the plan with the least slacks. Its conditions are its premises. -/
import Derived.Test.YtgamekcjjpjnnaaA24
set_option linter.unusedVariables false
namespace Go.Proofs.Ytgamekcjjpjnnaa
open Go.RowKit

/-- The sum of all slacks. -/
def sumSl (T : Int) (l : List Sp) (X : List Int) : Int := (l.map fun s => slackV T s X).sum

/-- What Shortest has found: the best plan, its sum, how many. -/
structure Best where
  best : Option (List Int)
  least : Int
  many : Int

def bestStep (T : Int) (l : List Sp) (s : Best) (X : List Int) : Bool × Best :=
  (decide (1000000 < wrap64 (s.many + 1)), if s.best = none ∨ sumSl T l X < s.least then ⟨some X, sumSl T l X, wrap64 (s.many + 1)⟩ else ⟨s.best, s.least, wrap64 (s.many + 1)⟩)

/-- Where the best plan lies. -/
def BestAt (bo bl bm bh ha : Nat) (s : Option (List Int)) (w : World) : Prop := match s with
  | none => Blk w bo 25 [.slice none 0 0]
  | some X => ∃ g cap, Blk w bo 25 [.slice (some ⟨g, 0, none⟩) X.length cap] ∧ IntsAt w g 0 X ∧ g ≠ bh ∧ g ≠ ha ∧ g < w.heap.size ∧ g ≠ bl ∧ g ≠ bm

structure BestInv (T N : Nat) (l : List Sp) (a : Option Addr) (cap b off p bpp bo bl bm bh ha : Nat) (s : Best) (w : World) : Prop where
  pp : w.cell? ⟨bpp, 0, none⟩ = some (.pointer (some ⟨p, 0, none⟩))
  plan : PlanAt w p T N (.slice a l.length cap)
  spans : SpansAt w b off l
  least : Blk w bl 3 [.int .i64 s.least]
  many : Blk w bm 3 [.int .i64 s.many]
  best : BestAt bo bl bm bh ha s.best w

def bestV (T N : Nat) (l : List Sp) (a : Option Addr) (cap b off p bpp bo bl bm : Nat) : Visitor Best where
  f := 56
  caught := #[.pointer (some ⟨bpp, 0, none⟩), .pointer (some ⟨bo, 0, none⟩), .pointer (some ⟨bl, 0, none⟩), .pointer (some ⟨bm, 0, none⟩)]
  step := bestStep T l
  Own k := k = bo ∨ k = bl ∨ k = bm
  Inv bh ha s w := BestInv T N l a cap b off p bpp bo bl bm bh ha s w

theorem BestAt.chg {bo bl bm bh ha : Nat} {s : Option (List Int)} {S : Nat → Prop} {w w' : World} (h : BestAt bo bl bm bh ha s w) (hc : Chg S w w') (h1 : ¬ S bo) (h2 : ∀ k, S k → k = bh ∨ k = ha) : BestAt bo bl bm bh ha s w' := by
  cases s with
  | none => exact hc.blk h h1
  | some X =>
    obtain ⟨g, cap, k1, k2, k3, k4, k5, k6⟩ := h
    exact ⟨g, cap, hc.blk k1 h1, k2.chg hc (fun h => by rcases h2 _ h with h | h <;> omega), k3, k4, Nat.lt_of_lt_of_le k5 hc.size, k6⟩

theorem BestAt.var {bo bl bm bh ha : Nat} {s : Option (List Int)} {w : World} (h : BestAt bo bl bm bh ha s w) : ∃ ao n c, Blk w bo 25 [.slice ao n c] ∧ (ao = none ↔ s = none) := by
  cases s with
  | none => exact ⟨none, 0, 0, h, by simp⟩
  | some X =>
    obtain ⟨g, cap, k1, _⟩ := h
    exact ⟨_, _, _, k1, by simp⟩

theorem sum_take {L : List Int} {i : Nat} (h : i < L.length) : (L.take (i + 1)).sum = (L.take i).sum + L[i] := by
  rw [List.take_succ_eq_append_getElem h, List.sum_append]
  simp

theorem sum_take_bound {L : List Int} (hb : ∀ x ∈ L, 0 ≤ x ∧ x ≤ 24) (i : Nat) : 0 ≤ (L.take i).sum ∧ (L.take i).sum ≤ 24 * i := by
  induction i with
  | zero => simp
  | succ i ih =>
    by_cases h : i < L.length
    · rw [sum_take h]
      have := hb _ (List.getElem_mem h)
      omega
    · rw [List.take_of_length_le (by omega)]
      rw [List.take_of_length_le (by omega)] at ih
      omega

theorem inHours_of {T N : Nat} {X : List Int} (h1 : X.length = N) (h2 : InRound T X) : inHours T N X :=
  ⟨by omega, fun x hx => by
    obtain ⟨i, hi, rfl⟩ := List.getElem_of_mem hx
    rw [hr_get hi]
    exact h2 i hi⟩

theorem best_put {T N : Nat} {l : List Sp} {a : Option Addr} {cap b off p bpp bo bl bm bh ha g' c' : Nat} {w w2 : World} {s : Best} {X : List Int} {z m : Int} {bb : Bool}
    (hd : bo ≠ bl ∧ bo ≠ bm ∧ bl ≠ bm) (hn : bpp ≠ bo ∧ bpp ≠ bl ∧ bpp ≠ bm ∧ p ≠ bo ∧ p ≠ bl ∧ p ≠ bm ∧ b ≠ bo ∧ b ≠ bl ∧ b ≠ bm)
    (hI : BestInv T N l a cap b off p bpp bo bl bm bh ha s w) (hc : Chg (fun _ => False) w w2) (hg : w.heap.size ≤ g') (hg2 : g' < w2.heap.size) (hX : IntsAt w2 g' 0 X) (h3 : bh < w.heap.size) (h4 : ha < w.heap.size)
    (hst : bestStep T l s X = (bb, ⟨some X, z, m⟩)) :
    VPost (bestV T N l a cap b off p bpp bo bl bm) bh ha s X w (.returned (.bool bb)) (((w2.setCell ⟨bo, 0, none⟩ (.slice (some ⟨g', 0, none⟩) X.length c')).setCell ⟨bl, 0, none⟩ (.int .i64 z)).setCell ⟨bm, 0, none⟩ (.int .i64 m)) := by
  obtain ⟨d1, d2, d3⟩ := hd
  obtain ⟨n1, n2, n3, n4, n5, n6, n7, n8, n9⟩ := hn
  obtain ⟨ao, nb, cb, hbb, _⟩ := hI.best.var
  have zb := hbb.lt; have zl := hI.least.lt; have zm := hI.many.lt
  have hS : Chg (fun k => k = bo ∨ k = bl ∨ k = bm) w2 (((w2.setCell ⟨bo, 0, none⟩ (.slice (some ⟨g', 0, none⟩) X.length c')).setCell ⟨bl, 0, none⟩ (.int .i64 z)).setCell ⟨bm, 0, none⟩ (.int .i64 m)) :=
    (((Chg.refl (fun k => k = bo ∨ k = bl ∨ k = bm) w2).setCell (a := ⟨bo, 0, none⟩) (.inl (.inl rfl)) _).setCell (a := ⟨bl, 0, none⟩) (.inl (.inr (.inl rfl))) _).setCell (a := ⟨bm, 0, none⟩) (.inl (.inr (.inr rfl))) _
  have hA : Chg (fun k => k = bo ∨ k = bl ∨ k = bm) w _ := (hc.mono (S' := fun k => k = bo ∨ k = bl ∨ k = bm) (fun _ x => x.elim)).trans hS (fun k h => .inl h)
  have h := hst
  refine ⟨by show _ = Ending.returned (.bool (bestStep T l s X).1); rw [h], ?_, hA⟩
  show BestInv T N l a cap b off p bpp bo bl bm bh ha (bestStep T l s X).2 _
  rw [h]
  have k2 := hc.blk hI.least (fun x => x)
  have k3 := hc.blk hI.many (fun x => x)
  have k1 := hc.blk hbb (fun x => x)
  have hXX := hX.chg hS (by rintro (h | h | h) <;> omega)
  have hsz := hS.size
  exact ⟨hA.cell_some hI.pp (by rintro (h | h | h) <;> first | exact n1 h | exact n2 h | exact n3 h), hI.plan.chg hA (by rintro (h | h | h) <;> omega), hI.spans.chg hA (by rintro (h | h | h) <;> omega),
    ((k2.setOther (a := ⟨bo, 0, none⟩) d1 _).set 0 (.int .i64 z)).setOther (a := ⟨bm, 0, none⟩) d3.symm _,
    ((k3.setOther (a := ⟨bo, 0, none⟩) d2 _).setOther (a := ⟨bl, 0, none⟩) d3 _).set 0 (.int .i64 m),
    g', c', ((k1.set 0 _).setOther (a := ⟨bl, 0, none⟩) d1.symm _).setOther (a := ⟨bm, 0, none⟩) d2.symm _, hXX, by omega, by omega, by omega, by omega, by omega⟩

theorem best_keep {T N : Nat} {l : List Sp} {a : Option Addr} {cap b off p bpp bo bl bm bh ha : Nat} {w w2 : World} {s : Best} {X : List Int} {m : Int} {bb : Bool}
    (hd : bo ≠ bl ∧ bo ≠ bm ∧ bl ≠ bm) (hn : bpp ≠ bo ∧ bpp ≠ bl ∧ bpp ≠ bm ∧ p ≠ bo ∧ p ≠ bl ∧ p ≠ bm ∧ b ≠ bo ∧ b ≠ bl ∧ b ≠ bm)
    (hI : BestInv T N l a cap b off p bpp bo bl bm bh ha s w) (hc : Chg (fun _ => False) w w2) (h3 : bh ≠ bm) (h4 : ha ≠ bm)
    (hst : bestStep T l s X = (bb, ⟨s.best, s.least, m⟩)) :
    VPost (bestV T N l a cap b off p bpp bo bl bm) bh ha s X w (.returned (.bool bb)) (w2.setCell ⟨bm, 0, none⟩ (.int .i64 m)) := by
  obtain ⟨d1, d2, d3⟩ := hd
  obtain ⟨n1, n2, n3, n4, n5, n6, n7, n8, n9⟩ := hn
  have hS : Chg (fun k => k = bm) w2 (w2.setCell ⟨bm, 0, none⟩ (.int .i64 m)) := (Chg.refl (fun k => k = bm) w2).setCell (a := ⟨bm, 0, none⟩) (.inl rfl) _
  have hA : Chg (fun k => k = bm) w _ := (hc.mono (S' := fun k => k = bm) (fun _ x => x.elim)).trans hS (fun k h => .inl h)
  have h := hst
  refine ⟨by show _ = Ending.returned (.bool (bestStep T l s X).1); rw [h], ?_, hA.mono (fun k h => .inr (.inr h))⟩
  show BestInv T N l a cap b off p bpp bo bl bm bh ha (bestStep T l s X).2 _
  rw [h]
  have k3 := hc.blk hI.many (fun x => x)
  have zm := hI.many.lt
  refine ⟨hA.cell_some hI.pp n3, hI.plan.chg hA n6, hI.spans.chg hA n9, hA.blk hI.least d3, k3.set 0 _, ?_⟩
  have hb := hI.best.chg hc (fun x => x) (fun k h => h.elim)
  show BestAt bo bl bm bh ha s.best _
  cases hs : s.best with
  | none =>
    rw [hs] at hb
    exact hS.blk (show Blk w2 bo 25 [.slice none 0 0] from hb) d2
  | some Y =>
    rw [hs] at hb
    obtain ⟨g, c2, e1, e2, e3, e4, e5, e6, e7⟩ := hb
    exact ⟨g, c2, hS.blk e1 d2, e2.chg hS e7, e3, e4, Nat.lt_of_lt_of_le e5 hS.size, e6, e7⟩

set_option maxRecDepth 100000 in
set_option maxHeartbeats 4000000 in
theorem bestV_ok (T N : Nat) (l : List Sp) (a : Option Addr) (cap b off p bpp bo bl bm B0 : Nat) (hv : Valid T N l) (ha : l = [] ∨ a = some ⟨b, off, none⟩)
    (hB : bo < B0 ∧ bl < B0 ∧ bm < B0 ∧ bpp < B0 ∧ p < B0 ∧ b < B0) (hd : bo ≠ bl ∧ bo ≠ bm ∧ bl ≠ bm) (hn : bpp ≠ bo ∧ bpp ≠ bl ∧ bpp ≠ bm ∧ p ≠ bo ∧ p ≠ bl ∧ p ≠ bm ∧ b ≠ bo ∧ b ≠ bl ∧ b ≠ bm) :
    (bestV T N l a cap b off p bpp bo bl bm).Ok T N l B0 := by
  refine ⟨fun args w => rfl, fun k hk => by rcases hk with h | h | h <;> omega, fun bh ha s w w' h1 h2 hI hc => ?_, ?_⟩
  · have hx : ∀ k, k < B0 → ¬ (k = bh ∨ k = ha) := fun k hk h => by omega
    exact ⟨hc.cell_some hI.pp (hx bpp (by omega)), hI.plan.chg hc (hx p (by omega)), hI.spans.chg hc (hx b (by omega)), hc.blk hI.least (hx bl (by omega)), hc.blk hI.many (hx bm (by omega)), hI.best.chg hc (hx bo (by omega)) (fun k h => h)⟩
  intro bh ha2 s w X c h1 h2 h3 h4 hI hX hlen hR hok hc
  have hI' : BestInv T N l a cap b off p bpp bo bl bm bh ha2 s w := hI
  clear hI
  have hH := inHours_of hlen hR
  have hn1 := hv.n1; have hn2 := hv.n2; have hl20 := hv.len; have ht1 := hv.t1; have ht2 := hv.t2
  have heql : ∀ (w : World) (a : Option Addr) (l c : Nat), (binOp .eql 25 (.slice a l c) (.slice none 0 0)).run Try.prog w = .ok (.bool a.isNone) w := fun w a l c => Lib.run_eql_slice_nil w 25 3 a l c 0 0 Try.underlying25
  have HV := Lib.hid hv; have HA := Lib.hid ha; have HI := Lib.hid hI'; have HX := Lib.hid hX; have HH := Lib.hid hH; have HD := Lib.hid hd; have HN := Lib.hid hn; have HL := Lib.hid hlen; have HB := Lib.hid hB
  have g0 := hI'.pp
  have hX1 : 1 ≤ X.length := by omega
  have hX2 : X.length ≤ 1000 := by omega
  obtain ⟨sb, sl, sm⟩ := s
  obtain ⟨L, hL⟩ : ∃ L, (l.map fun s => slackV T s X) = L := ⟨_, rfl⟩
  have hLl : L.length ≤ 20 := by rw [← hL]; simpa using hl20
  have hLb : ∀ x ∈ L, 0 ≤ x ∧ x ≤ 24 := fun x hx => by
    rw [← hL] at hx
    obtain ⟨s, _, rfl⟩ := List.mem_map.1 hx
    have := slackV_bounds ht1 s X
    omega
  have hsl := slacks_any l a cap b off X (some ⟨ha2, 0, none⟩) c ha2 0 T N p w hv hI'.spans ha hX rfl hH hI'.plan
  rw [hL] at hsl
  have HSL := Lib.hid hsl; have HLL := Lib.hid hL; have HLB := Lib.hid hLb
  clear hv ha hI' hX hH hd hn hR hok hlen hB hsl hL hLb
  show Calls Try.prog 56 #[.slice (some ⟨ha2, 0, none⟩) X.length c, .pointer (some ⟨bpp, 0, none⟩), .pointer (some ⟨bo, 0, none⟩), .pointer (some ⟨bl, 0, none⟩), .pointer (some ⟨bm, 0, none⟩)] w _
  go_enter Try.func56, Try.ntmps56
  go_wp2_with fail
  refine HSL.out.mono ?_
  rintro e w1 ⟨ao, c1, g, rfl, hg, hI1, hge, hc1⟩
  have HG := Lib.hid hg; have HI1 := Lib.hid hI1; have HC1 := Lib.hid hc1
  clear hg hI1 hc1 g0
  go_wp2_with fail
  go_loop [7, 14] (fun sv iv => ∃ i : Nat, i ≤ L.length ∧ iv = .int .i64 i ∧ sv = .int .i64 (L.take i).sum) (fun _ iv => L.length - (intOf iv).toNat)
  case atStart => exact ⟨0, by omega, rfl, rfl⟩
  case round =>
    obtain ⟨i, hi, rfl, rfl⟩ := hrel
    have hsb := sum_take_bound HLB.out i
    by_cases hlt : i < L.length
    · have hne : ao = some ⟨g, 0, none⟩ := HG.out.resolve_left (by intro h; simp [h] at hlt)
      subst hne
      have gk := HI1.out i hlt
      rw [Nat.zero_add] at gk
      have hst := sum_take hlt
      have hxb := HLB.out _ (List.getElem_mem hlt)
      obtain ⟨x, hx⟩ : ∃ x, L[i] = x := ⟨_, rfl⟩
      rw [hx] at gk hst hxb
      obtain ⟨z, hz⟩ : ∃ z, (L.take i).sum = z := ⟨_, rfl⟩
      rw [hz] at hst hsb ⊢
      have HST := Lib.hid hst
      clear hst hx hz
      go_wp2_with fail
      go_round
      case rel => exact ⟨i + 1, by omega, by go_num, by rw [HST.out]⟩
      case measure => simp [intOf]; omega
    · obtain rfl : i = L.length := by omega
      rw [List.take_length] at hsb ⊢
      have hsum : L.sum = sumSl T l X := by unfold sumSl; rw [HLL.out]
      obtain ⟨z, hz⟩ : ∃ z, sumSl T l X = z := ⟨_, rfl⟩
      rw [hsum, hz] at hsb ⊢
      have HZ := Lib.hid hz
      clear hsum hz hlt
      have hb1 := HI.out.best.chg HC1.out (fun x => x) (fun k h => h.elim)
      obtain ⟨aob, nb, cb, hbb, hbn⟩ := hb1.var
      have m0 := HC1.out.blk HI.out.many (fun x => x)
      have l0 := HC1.out.blk HI.out.least (fun x => x)
      have HB1 := Lib.hid hb1; have HBB := Lib.hid hbb; have HBN := Lib.hid hbn; have HM0 := Lib.hid m0; have HL0 := Lib.hid l0
      obtain ⟨d1, d2, d3⟩ := HD.out
      have d1' := d1.symm; have d2' := d2.symm; have d3' := d3.symm
      clear hb1 hbn
      have q0 := hbb.cell_some (i := 0) rfl
      have q1 := m0.cell_some (i := 0) rfl
      have q2 := l0.cell_some (i := 0) rfl
      have f0 := hbb.free 0; have f1 := m0.free 0; have f2 := l0.free 0
      have z0 := hbb.lt; have z1 := m0.lt; have z2 := l0.lt
      clear hbb m0 l0
      by_cases hup : sb = none ∨ z < sl
      · have HUP := Lib.hid hup
        have HSTEP := Lib.hid (show bestStep T l ⟨sb, sl, sm⟩ X = (decide (1000000 < wrap64 (sm + 1)), ⟨some X, z, wrap64 (sm + 1)⟩) by unfold bestStep; rw [HZ.out]; dsimp only; rw [if_pos HUP.out])
        have hcase : (aob = none) ∨ (∃ y, aob = some y) ∧ z < sl := by
          cases aob with
          | none => exact .inl rfl
          | some y =>
            refine .inr ⟨⟨y, rfl⟩, ?_⟩
            rcases hup with h | h
            · exact absurd (HBN.out.2 h) (by simp)
            · exact h
        have hc' : (aob = none) ∨ (∃ y, aob = some y) ∧ z < sl := hcase
        have HCASE := Lib.hid hc'
        clear hup hcase hc' HB1
        have HGO : ∀ (kx : Nat), True := fun _ => trivial
        clear HGO
        rcases HCASE.out with hao | ⟨⟨y, hy⟩, hzl⟩
        · subst hao
          clear HCASE
          go_wp2_with fail
          refine (clone_any X ha2 0 c w1 (HX.out.chg HC1.out (fun x => x)) hX1 hX2).mono ?_
          rintro e w2 ⟨g', c', rfl, e1, e2, hI2, hc2⟩
          have HI2 := Lib.hid hI2; have HC2 := Lib.hid hc2
          have q1 := hc2.cell_some q1 (fun x => x); have q2 := hc2.cell_some q2 (fun x => x); have q0 := hc2.cell_some q0 (fun x => x)
          have f0 := (hc2.blk HBB.out (fun x => x)).free 0; have f1 := (hc2.blk HM0.out (fun x => x)).free 0; have f2 := (hc2.blk HL0.out (fun x => x)).free 0
          have z0 := (hc2.blk HBB.out (fun x => x)).lt; have z1 := (hc2.blk HM0.out (fun x => x)).lt; have z2 := (hc2.blk HL0.out (fun x => x)).lt
          clear hI2 hc2
          go_wp2_with fail
          go_ret
          exact best_put HD.out HN.out HI.out (HC1.out.trans HC2.out (fun _ x => x.elim)) (by have := HC1.out.size; omega) e2 HI2.out h3 h4 HSTEP.out
        · subst hy
          have dz : decide (z < sl) = true := by simpa using hzl
          clear HCASE hzl
          go_wp2_with fail
          refine (clone_any X ha2 0 c w1 (HX.out.chg HC1.out (fun x => x)) hX1 hX2).mono ?_
          rintro e w2 ⟨g', c', rfl, e1, e2, hI2, hc2⟩
          have HI2 := Lib.hid hI2; have HC2 := Lib.hid hc2
          have q1 := hc2.cell_some q1 (fun x => x); have q2 := hc2.cell_some q2 (fun x => x); have q0 := hc2.cell_some q0 (fun x => x)
          have f0 := (hc2.blk HBB.out (fun x => x)).free 0; have f1 := (hc2.blk HM0.out (fun x => x)).free 0; have f2 := (hc2.blk HL0.out (fun x => x)).free 0
          have z0 := (hc2.blk HBB.out (fun x => x)).lt; have z1 := (hc2.blk HM0.out (fun x => x)).lt; have z2 := (hc2.blk HL0.out (fun x => x)).lt
          clear hI2 hc2
          go_wp2_with fail
          go_ret
          exact best_put HD.out HN.out HI.out (HC1.out.trans HC2.out (fun _ x => x.elim)) (by have := HC1.out.size; omega) e2 HI2.out h3 h4 HSTEP.out
      · have HUP := Lib.hid hup
        have HSTEP := Lib.hid (show bestStep T l ⟨sb, sl, sm⟩ X = (decide (1000000 < wrap64 (sm + 1)), ⟨sb, sl, wrap64 (sm + 1)⟩) by unfold bestStep; rw [HZ.out]; dsimp only; rw [if_neg HUP.out])
        have hy : ∃ y, aob = some y := by
          cases aob with
          | none => exact absurd (.inl (HBN.out.1 rfl)) hup
          | some y => exact ⟨y, rfl⟩
        obtain ⟨y, rfl⟩ := hy
        have dz : decide (z < sl) = false := by rw [decide_eq_false_iff_not]; exact fun h => hup (.inr h)
        clear hup
        go_wp2_with fail
        clear q0 q1 q2 f0 f1 f2
        go_ret
        exact best_keep HD.out HN.out HI.out HC1.out (by have := HB.out; omega) (by have := HB.out; omega) HSTEP.out
end Go.Proofs.Ytgamekcjjpjnnaa
