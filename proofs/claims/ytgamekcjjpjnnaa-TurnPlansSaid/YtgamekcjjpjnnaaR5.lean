/- The reference's search of all plans: one plan is looked at. Its conditions are its premises. -/
import Derived.Test.YtgamekcjjpjnnaaR3
import Derived.Test.YtgamekcjjpjnnaaA34
import Derived.Test.YtgamekcjjpjnnaaM14
set_option linter.unusedVariables false
namespace Go.Proofs.Ytgamekcjjpjnnaa
open Go.RowKit

def BestIn (w : World) (fb : Nat) (bv : Value) : Option (List Int) → Prop
  | none => bv = .slice none 0 0
  | some Y => ∃ g c, bv = .slice (some ⟨g, 0, none⟩) Y.length c ∧ IntsAt w g 0 Y ∧ g ≠ fb

/-- What has been found lies in a block. -/
def FindAt (w : World) (fb : Nat) (s : Best) : Prop := ∃ bv, Blk w fb 72 [.int .i64 s.many, bv, .int .i64 s.least] ∧ BestIn w fb bv s.best

theorem BestIn.chg {w w' : World} {fb : Nat} {bv : Value} {o : Option (List Int)} (h : BestIn w fb bv o) (hc : Chg (fun k => k = fb) w w') : BestIn w' fb bv o := by
  cases o with
  | none => exact h
  | some Y => obtain ⟨g, c, h1, h2, h3⟩ := h; exact ⟨g, c, h1, h2.chg hc h3, h3⟩
theorem FindAt.same {w w' : World} {fb : Nat} {s : Best} (h : FindAt w fb s) (hc : Chg (fun _ => False) w w') : FindAt w' fb s := by
  obtain ⟨bv, h1, h2⟩ := h
  exact ⟨bv, hc.blk h1 (fun x => x), h2.chg (hc.mono (fun _ x => x.elim))⟩

def FindPost (fb : Nat) (s : Best) (w : World) (e : Ending) (w' : World) : Prop := e = .returned (.tuple #[]) ∧ FindAt w' fb s ∧ Chg (fun k => k = fb) w w'

theorem leaf_facts {w wr w1 w2 : World} {fb : Nat} {X : List Int} {v1 : Value} {vals : List Value} (hown : w2.ownsRow w.heap.size 3 1 v1 (0 + X.length) ([] ++ X.map (Value.int .i64)))
    (hgrow : (w1.alloc (.cells #[] 3)).grownBy w2 (Value.slice (some ⟨wr.heap.size, 0, none⟩) 0 0).ownBlock) (hXN : X ≠ []) (hfb : fb < w.heap.size) (hsz : w.heap.size ≤ wr.heap.size) (hb : Blk w1 fb 72 vals) (hc : Chg (fun k => k = fb) w w1) :
    ∃ g1 c1, v1 = .slice (some ⟨g1, 0, none⟩) X.length c1 ∧ w.heap.size ≤ g1 ∧ IntsAt w2 g1 0 X ∧ Blk w2 fb 72 vals ∧ Chg (fun k => k = fb) w w2 := by
  rw [List.nil_append] at hown
  obtain ⟨g1, c1, rfl, hg1, hg2, hI1, _⟩ := owns_ints hown hXN
  have hcg := Chg.of_grownRow hgrow
  refine ⟨g1, c1, rfl, hg1, hI1, hcg.blk (hb.alloc _) (fun e => ?_), (hc.alloc _).trans hcg (fun k e => .inr ?_)⟩
  · simp [Value.ownBlock] at e; omega
  · simp [Value.ownBlock] at e; omega

set_option maxRecDepth 100000 in
set_option maxHeartbeats 400000 in
theorem found_leaf (T N : Nat) (l : List Sp) (hv : Valid T N l) (a : Option Addr) (cap b off : Nat) (g co fb : Nat) (X : List Int) (br cx : Nat) (s : Best) (w : World) (hs : SpansAt w b off l) (ha : l = [] ∨ a = some ⟨b, off, none⟩)
    (hn : X.length = N) (hX : IntsAt w br 0 X) (hH : inHours T N X) (hF : FindAt w fb s) (hbf : br ≠ fb) (hm : 0 ≤ s.many ∧ s.many ≤ 1000000) (hl : 0 ≤ s.least ∧ s.least ≤ 1000000) :
    Calls Try.prog 74 #[.pointer (some ⟨fb, 0, none⟩), .int .i64 T, .int .i64 N, .slice a l.length cap, .slice (some ⟨g, 0, none⟩) N co, .slice (some ⟨br, 0, none⟩) X.length cx] w (FindPost fb (refStep T l s X) w) := by
  obtain ⟨i0, hi0, hz0, hz1, hz2⟩ := info_parts info3
  have HI0 := Lib.hid hi0; have HZ0 := Lib.hid hz0; have HZ1 := Lib.hid hz1; have HZ2 := Lib.hid hz2
  have HV := Lib.hid hv; have HS := Lib.hid hs; have HA := Lib.hid ha; have HX := Lib.hid hX; have HH := Lib.hid hH; have HF := Lib.hid hF; have HN := Lib.hid hn
  have hl20 := hv.len; have ht1 := hv.t1; have ht2 := hv.t2; have hn2 := hv.n2; have hn1 := hv.n1
  have hfb0 : fb < w.heap.size := by obtain ⟨_, h, _⟩ := hF; exact h.lt
  have dlen : ((X.length : Int) == (N : Int)) = true := by simp [hn]
  have hX1 : 1 ≤ X.length := by omega
  have hX6 : X.length ≤ 6 := by omega
  clear hi0 hz0 hz1 hz2 hv hs ha hX hH hF hn
  go_enter Try.func74, Try.ntmps74
  go_wp2_with fail
  have HLB : Hid (∀ x ∈ (l.map fun s => slackV T s X), 0 ≤ x ∧ x ≤ 24) := Lib.hid (fun x hx => by
    obtain ⟨s, _, rfl⟩ := List.mem_map.1 hx
    have := slackV_bounds ht1 s X
    omega)
  go_loopg [12, 13] l.length (fun gm sv iv wr => ∃ i : Nat, i ≤ l.length ∧ gm = l.length - i ∧ iv = .int .i64 i ∧ sv = .int .i64 ((l.map fun s => slackV T s X).take i).sum ∧ Chg (fun _ => False) w wr)
  case atStart => exact ⟨0, by omega, by omega, rfl, rfl, Chg.refl _ w⟩
  case round =>
    obtain ⟨i, hi, rfl, rfl, rfl, hcg⟩ := hrel
    have HCG := Lib.hid hcg
    clear hcg
    have hsb := sum_take_bound HLB.out i
    by_cases hlt : i < l.length
    · have hne : a = some ⟨b, off, none⟩ := HA.out.resolve_left (by intro h; simp [h] at hlt)
      subst hne
      obtain ⟨c0, c1, c2, c3⟩ := HS.out.chg HCG.out (fun x => x) i hlt
      have hst := sum_take (L := (l.map fun s => slackV T s X)) (i := i) (by simpa using hlt)
      rw [List.getElem_map] at hst
      obtain ⟨sp, hsp⟩ : ∃ s, l[i] = s := ⟨_, rfl⟩
      have hok := HV.out.ok _ (List.getElem_mem hlt)
      rw [hsp] at c0 c1 c2 c3 hok hst
      clear hsp
      have hlen := HH.out.1
      have hx := inHours_hr HH.out (i := sp.src.toNat) (by omega)
      have hy := inHours_hr HH.out (i := sp.dst.toNat) (by omega)
      have hXw := HX.out.chg HCG.out (fun x => x)
      have hcx := hXw sp.src.toNat (by omega)
      have hcy := hXw sp.dst.toNat (by omega)
      rw [hr_get] at hcx hcy
      obtain ⟨x, hxx⟩ : ∃ x, hr X sp.src.toNat = x := ⟨_, rfl⟩
      obtain ⟨y, hyy⟩ : ∃ y, hr X sp.dst.toNat = y := ⟨_, rfl⟩
      rw [hxx] at hx hcx
      rw [hyy] at hy hcy
      have hkx : sp.src < X.length := by omega
      have hky : sp.dst < X.length := by omega
      clear hlen
      have hsb2 := slackV_bounds ht1 sp X
      obtain ⟨q, hq⟩ : ∃ q, slackV T sp X = q := ⟨_, rfl⟩
      have HSV := Lib.hid (show (y - x - sp.lo) % (T : Int) = q by rw [← hq]; unfold slackV; rw [hxx, hyy])
      rw [hq] at hsb2 hst
      obtain ⟨z, hz⟩ : ∃ z, ((l.map fun s => slackV T s X).take i).sum = z := ⟨_, rfl⟩
      rw [hz] at hst hsb ⊢
      have HST := Lib.hid hst
      have HCX := Lib.hid hcx; have HCY := Lib.hid hcy
      clear hxx hyy hXw hcx hcy hq hst hz
      go_wp2_with fail
      refine (rslack_any T sp.src sp.dst sp.lo sp.hi x y br 0 X.length cx _ ht1 (by omega) (by omega) (by omega) (by omega) (by omega) hkx hky (by omega) (by omega) (by omega) HCX.out HCY.out).mono ?_
      rw [HSV.out]
      rintro e w' ⟨rfl, x2, rfl⟩
      have HCW := Lib.hid (HCG.out.grow x2)
      clear c0 c1 c2 c3
      generalize wr.grow x2 = W2 at HCW ⊢
      go_wp2_with fail
      go_roundg (l.length - (i + 1))
      case measure => omega
      case rel => exact ⟨i + 1, by omega, rfl, by go_num, by rw [HST.out], HCW.out⟩
    · obtain rfl : i = l.length := by omega
      rw [List.take_of_length_le (by simp)] at hsb ⊢
      have HZ := Lib.hid (show (l.map fun s => slackV T s X).sum = sumSl T l X from rfl)
      rw [HZ.out] at hsb ⊢
      obtain ⟨sb, sl, sm⟩ := s
      have HF2 := Lib.hid (HF.out.same HCG.out)
      obtain ⟨z, hz⟩ : ∃ z, sumSl T l X = z := ⟨_, rfl⟩
      rw [hz] at hsb ⊢
      have HZZ := Lib.hid hz
      clear hz HZ HF
      dsimp only at hm hl
      obtain ⟨bv, hb, hbi⟩ := HF2.out
      dsimp only at hb hbi
      have q0 := hb.cell_some (i := 0) rfl
      have q1 := hb.cell_some (i := 1) rfl
      have q2 := hb.cell_some (i := 2) rfl
      have f0 := hb.free 0; have f1 := hb.free 1; have f2 := hb.free 2
      have HB := Lib.hid hb; have HBI := Lib.hid hbi
      have HFB : Hid (fb < w.heap.size) := Lib.hid hfb0
      clear hb hbi
      by_cases h1 : sm + 1 = 1
      · have d1 : (sm + 1 == 1) = true := by simpa using h1
        have HSTEP := Lib.hid (show refStep T l ⟨sb, sl, sm⟩ X = ⟨some X, z, sm + 1⟩ by unfold refStep; rw [HZZ.out]; dsimp only; rw [if_pos (.inl h1)])
        clear h1
        obtain ⟨w1, hw1⟩ : ∃ w1, (wr.setCell ⟨fb, 0, none⟩ (.int .i64 (sm + 1))).setCell ⟨fb, 2, none⟩ (.int .i64 z) = w1 := ⟨_, rfl⟩
        have hsz1 : w1.heap.size = wr.heap.size := by rw [← hw1]; simp [World.setCell]
        have hc1 : Chg (fun k => k = fb) wr w1 := by
          rw [← hw1]
          exact ((Chg.refl (fun k => k = fb) wr).setCell (a := ⟨fb, 0, none⟩) (.inl rfl) _).setCell (a := ⟨fb, 2, none⟩) (.inl rfl) _
        have HB1 := Lib.hid (show Blk w1 fb 72 [.int .i64 (sm + 1), bv, .int .i64 z] by rw [← hw1]; exact (HB.out.set 0 _).set 2 _)
        have HEM := Lib.hid (show Blk (w1.alloc (.cells #[] 3)) wr.heap.size 3 [] by rw [← hsz1]; exact Blk.new w1 #[] 3)
        have HC1 := Lib.hid (((HCG.out.mono (S' := fun k => k = fb) (fun _ x => x.elim)).trans hc1 (fun _ x => .inl x)))
        have HXW := Lib.hid ((HX.out.chg HC1.out hbf).chg ((Chg.refl (fun _ => False) w1).alloc (.cells #[] 3)) (fun x => x))
        have HSRC : Hid (∀ j u, (X.map (Value.int .i64))[j]? = some u → (w1.alloc (.cells #[] 3)).cell? ((⟨br, 0, none⟩ : Addr).add j) = some u) := Lib.hid (fun j u hu => by
          rw [add_plain]
          simp at hu
          obtain ⟨x, hx, rfl⟩ := hu
          obtain ⟨hj, rfl⟩ := List.getElem?_eq_some_iff.1 hx
          exact HXW.out j hj)
        have hszw : w.heap.size ≤ wr.heap.size := HCG.out.size
        have HW1 := Lib.hid hw1
        have hfbl : fb < w.heap.size := HFB.out
        have HXN : Hid (X ≠ []) := Lib.hid (by intro h; simp [h] at hX1)
        clear hw1 hc1 HF2
        go_wp2_with (first | (rw [HW1.out]) | (at_builtin; refine wpList_append_all rfl (.tmp 59) (.tmp 60) 25 rfl w.heap.size 3 i0 (.int .i64 0) 1 8 Try.underlying25 HI0.out HZ0.out HZ1.out HZ2.out rfl (by decide) _ 0 [] rfl (owns_empty (g := wr.heap.size) HEM.out hszw) (some ⟨br, 0, none⟩) X.length cx (X.map (Value.int .i64)) rfl (by simp) (.inr ⟨_, rfl, HSRC.out⟩) (by intro u hu; simp at hu; obtain ⟨x, _, rfl⟩ := hu; rfl) (by simp [maxLen]; omega) (by omega) (by simp; omega) ?_; intro v1 w2 hown1 hgrow1 hv1; obtain ⟨g1, c1, hv, hg1, hI1, hb2, hc2⟩ := leaf_facts hown1 hgrow1 HXN.out hfbl hszw HB1.out HC1.out; subst hv; have HI1 := Lib.hid hI1; have HB2 := Lib.hid hb2; have HC2 := Lib.hid hc2; have p1 := hb2.cell_some (i := 1) rfl; have p2 := hb2.free 1; clear hown1 hgrow1 hv1 hI1 hb2 hc2 q0 q1 q2 f0 f1 f2))
        refine bodyPost_ret (results_none rfl _ _ _) rfl ?_
        refine ⟨rfl, ?_, HC2.out.setCell (a := ⟨fb, 1, none⟩) (.inl rfl) _⟩
        rw [HSTEP.out]
        exact ⟨_, HB2.out.set 1 _, g1, c1, rfl, HI1.out.chg ((Chg.refl (fun k => k = fb) w2).setCell (a := ⟨fb, 1, none⟩) (.inl rfl) _) (by omega), by omega⟩
      · have d1 : (sm + 1 == 1) = false := by simpa using h1
        by_cases h2 : z < sl
        · have d2 : decide (z < sl) = true := by simpa using h2
          have HSTEP := Lib.hid (show refStep T l ⟨sb, sl, sm⟩ X = ⟨some X, z, sm + 1⟩ by unfold refStep; rw [HZZ.out]; dsimp only; rw [if_pos (.inr h2)])
          clear h1 h2
          obtain ⟨w1, hw1⟩ : ∃ w1, (wr.setCell ⟨fb, 0, none⟩ (.int .i64 (sm + 1))).setCell ⟨fb, 2, none⟩ (.int .i64 z) = w1 := ⟨_, rfl⟩
          have hsz1 : w1.heap.size = wr.heap.size := by rw [← hw1]; simp [World.setCell]
          have hc1 : Chg (fun k => k = fb) wr w1 := by
            rw [← hw1]
            exact ((Chg.refl (fun k => k = fb) wr).setCell (a := ⟨fb, 0, none⟩) (.inl rfl) _).setCell (a := ⟨fb, 2, none⟩) (.inl rfl) _
          have HB1 := Lib.hid (show Blk w1 fb 72 [.int .i64 (sm + 1), bv, .int .i64 z] by rw [← hw1]; exact (HB.out.set 0 _).set 2 _)
          have HEM := Lib.hid (show Blk (w1.alloc (.cells #[] 3)) wr.heap.size 3 [] by rw [← hsz1]; exact Blk.new w1 #[] 3)
          have HC1 := Lib.hid (((HCG.out.mono (S' := fun k => k = fb) (fun _ x => x.elim)).trans hc1 (fun _ x => .inl x)))
          have HXW := Lib.hid ((HX.out.chg HC1.out hbf).chg ((Chg.refl (fun _ => False) w1).alloc (.cells #[] 3)) (fun x => x))
          have HSRC : Hid (∀ j u, (X.map (Value.int .i64))[j]? = some u → (w1.alloc (.cells #[] 3)).cell? ((⟨br, 0, none⟩ : Addr).add j) = some u) := Lib.hid (fun j u hu => by
            rw [add_plain]
            simp at hu
            obtain ⟨x, hx, rfl⟩ := hu
            obtain ⟨hj, rfl⟩ := List.getElem?_eq_some_iff.1 hx
            exact HXW.out j hj)
          have hszw : w.heap.size ≤ wr.heap.size := HCG.out.size
          have HW1 := Lib.hid hw1
          have hfbl : fb < w.heap.size := HFB.out
          have HXN : Hid (X ≠ []) := Lib.hid (by intro h; simp [h] at hX1)
          clear hw1 hc1 HF2
          go_wp2_with (first | (rw [HW1.out]) | (at_builtin; refine wpList_append_all rfl (.tmp 59) (.tmp 60) 25 rfl w.heap.size 3 i0 (.int .i64 0) 1 8 Try.underlying25 HI0.out HZ0.out HZ1.out HZ2.out rfl (by decide) _ 0 [] rfl (owns_empty (g := wr.heap.size) HEM.out hszw) (some ⟨br, 0, none⟩) X.length cx (X.map (Value.int .i64)) rfl (by simp) (.inr ⟨_, rfl, HSRC.out⟩) (by intro u hu; simp at hu; obtain ⟨x, _, rfl⟩ := hu; rfl) (by simp [maxLen]; omega) (by omega) (by simp; omega) ?_; intro v1 w2 hown1 hgrow1 hv1; obtain ⟨g1, c1, hv, hg1, hI1, hb2, hc2⟩ := leaf_facts hown1 hgrow1 HXN.out hfbl hszw HB1.out HC1.out; subst hv; have HI1 := Lib.hid hI1; have HB2 := Lib.hid hb2; have HC2 := Lib.hid hc2; have p1 := hb2.cell_some (i := 1) rfl; have p2 := hb2.free 1; clear hown1 hgrow1 hv1 hI1 hb2 hc2 q0 q1 q2 f0 f1 f2))
          refine bodyPost_ret (results_none rfl _ _ _) rfl ?_
          refine ⟨rfl, ?_, HC2.out.setCell (a := ⟨fb, 1, none⟩) (.inl rfl) _⟩
          rw [HSTEP.out]
          exact ⟨_, HB2.out.set 1 _, g1, c1, rfl, HI1.out.chg ((Chg.refl (fun k => k = fb) w2).setCell (a := ⟨fb, 1, none⟩) (.inl rfl) _) (by omega), by omega⟩
        · have d2 : decide (z < sl) = false := by simpa using h2
          have HSTEP := Lib.hid (show refStep T l ⟨sb, sl, sm⟩ X = ⟨sb, sl, sm + 1⟩ by unfold refStep; rw [HZZ.out]; dsimp only; rw [if_neg (by rintro (h | h); exact h1 h; exact h2 h)])
          clear h1 h2
          go_wp2_with fail
          refine bodyPost_ret (results_none rfl _ _ _) rfl ?_
          have hcs : Chg (fun k => k = fb) wr (wr.setCell ⟨fb, 0, none⟩ (.int .i64 (sm + 1))) := (Chg.refl (fun k => k = fb) wr).setCell (a := ⟨fb, 0, none⟩) (.inl rfl) _
          refine ⟨rfl, ?_, (HCG.out.mono (S' := fun k => k = fb) (fun _ x => x.elim)).trans hcs (fun _ x => .inl x)⟩
          rw [HSTEP.out]
          exact ⟨bv, HB.out.set 0 _, HBI.out.chg hcs⟩
end Go.Proofs.Ytgamekcjjpjnnaa
