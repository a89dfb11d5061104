/- Whether two rows become the same for ever: splits, walked. Its conditions are its premises. -/
import Derived.Test.YtdopmafhdhahiaaDoorW26
set_option linter.unusedVariables false
namespace Go.Proofs.YtdopmafhdhahiaaDoor
open Go.RowKit Go.Maps

theorem srch_hit {u : Nat} {p q : Pr} {f : Nat} {l S : List Pr} (h : q = p) : srchF u p (f + 1) (q :: l) S = true := by rw [srchF, if_pos h]
theorem srch_old {u : Nat} {p q : Pr} {f : Nat} {l S : List Pr} (h : q ≠ p) (hS : q ∈ S) : srchF u p (f + 1) (q :: l) S = srchF u p f l S := by rw [srchF, if_neg h, if_pos hS]
theorem srch_new {u : Nat} {p q : Pr} {f : Nat} {l S : List Pr} (h : q ≠ p) (hS : q ∉ S) : srchF u p (f + 1) (q :: l) S = srchF u p f (l ++ nxV u q) (S ++ [q]) := by rw [srchF, if_neg h, if_neg hS]
theorem srch_end (u : Nat) (p : Pr) (f : Nat) (S : List Pr) : srchF u p f [] S = false := by cases f <;> rfl

def Small4 (l : List Pr) : Prop := ∀ q ∈ l, q.1 < 4 ∧ q.2 < 4
theorem pairs16 {S : List Pr} (hn : S.Nodup) (hs : Small4 S) : S.length ≤ 16 := by
  have h := nodup_small 16 (S.map fun p => 4 * p.1 + p.2) (by
    rw [List.Nodup, List.pairwise_map]
    refine List.Pairwise.imp_of_mem ?_ hn
    intro a b ha hb hab hc
    have h1 := hs a ha
    have h2 := hs b hb
    exact hab (Prod.ext (by omega) (by omega))) (fun x hx => by
    obtain ⟨p, hp, rfl⟩ := List.mem_map.1 hx
    have := hs p hp
    omega)
  simpa using h

/-- What lies in memory: the queue l, the pairs S that have been seen. -/
structure SMem (w0 w : World) (mb g o c : Nat) (l S : List Pr) : Prop where
  que : QueB w 2 g o c l.length (pairsV l)
  seen : Seen2 w mb S
  lt : mb < g
  mold : w0.heap.size ≤ mb
  chg : Chg (fun _ => False) w0 w
  sl : Small4 l
  ss : Small4 S
  sn : S.Nodup

/-- The queue's slice: nothing, or a queue in memory. -/
def Todo (w0 w : World) (mb : Nat) (v : Value) (l S : List Pr) : Prop :=
  (l = [] ∧ (∃ ao c, v = .slice ao 0 c) ∧ Chg (fun _ => False) w0 w) ∨ ∃ g o c, v = .slice (some ⟨g, o, none⟩) l.length c ∧ SMem w0 w mb g o c l S

theorem slice_que2 (w : World) (g o N c : Nat) (hN : 0 < N) : (Instr.sliceAt 60 (.slice (some ⟨g, o, none⟩) N c) (some (.int .i64 1)) none none).run Tryd.prog w = .ok (.slice (some ⟨g, if c = 1 then o else o + 2, none⟩) (N - 1) (c - 1)) w := by
  obtain ⟨i0, hi0, hz0, hz1, hz2⟩ := info_parts info59
  have he : Tryd.prog.elem 60 = 59 := by kernel_rfl
  have hu : Tryd.prog.underlying 60 = some (.slice (Tryd.prog.elem 60)) := by rw [he]; exact Tryd.underlying60
  rw [run_sliceAt_slice w 60 _ _ _ _ hu, run_slice_l w 60 _ N c hu .i64 1 (by omega) (by omega), he]
  simp [sizeOf, typeInfo, hi0, hz1, sliced, Result.andThen]
  by_cases hc : c = 1
  · rw [if_pos hc, if_pos hc]
  · rw [if_neg hc, if_neg hc]
    simp [add_plain]

theorem todo_start {w0 w1 w2 : World} {mb : Nat} {v : Value} {l : List Pr} (hs : Small4 l) (hm : Seen2 w1 mb []) (hmo : w0.heap.size ≤ mb) (hc : Chg (fun _ => False) w0 w1)
    (ho : w2.ownsRow w1.heap.size 59 2 v l.length (pairsV l)) (hc2 : Chg (fun _ => False) w1 w2) : Todo w0 w2 mb v l [] ∧ ∃ ao c, v = .slice ao l.length c := by
  have hlt := hm.lt
  cases l with
  | nil =>
    obtain ⟨ao, c, rfl, _⟩ := owns_form ho
    exact ⟨.inl ⟨rfl, ⟨ao, c, rfl⟩, hc.trans hc2 (fun _ x => x.elim)⟩, ao, c, rfl⟩
  | cons q l =>
    obtain ⟨g, c, rfl, hg, hq⟩ := QueB.of_owns ho (by simp)
    exact ⟨.inr ⟨g, 0, c, rfl, hq, hm.chg hc2 (fun x => x), by omega, hmo, hc.trans hc2 (fun _ x => x.elim), hs, by intro q hq; simp at hq, List.nodup_nil⟩, _, c, rfl⟩

theorem eq_pairs {p q : Pr} (hp : p.1 < 4 ∧ p.2 < 4) (hq : q.1 < 4 ∧ q.2 < 4) (w : World) :
    (Op.equalIn 10000 59 (.agg #[.int .i64 (p.1 : Int), .int .i64 (p.2 : Int)]) (.agg #[.int .i64 (q.1 : Int), .int .i64 (q.2 : Int)])).run Tryd.prog w = .ok (decide (p = q)) w := by
  obtain ⟨r, hr, hi⟩ := run_equal_deep (P := Tryd.prog) w (m := 2) (by omega) (k := 59) (by kernel_rfl) wide59 (prK_eq hp) (prK_eq hq)
  have h : r = decide (p = q) := by
    by_cases hpq : p = q
    · subst hpq
      rw [decide_eq_true rfl]
      exact hi.2 rfl
    · rw [decide_eq_false hpq]
      cases r with
      | false => rfl
      | true => exact absurd (prK_inj hp hq (hi.1 rfl)) hpq
  rw [← h]
  exact hr

/-- The first pair falls away. -/
theorem SMem.tail {w0 w : World} {mb g o c : Nat} {q : Pr} {l S : List Pr} (h : SMem w0 w mb g o c (q :: l) S) : SMem w0 w mb g (if c = 1 then o else o + 2) (c - 1) l S :=
  ⟨h.que.tail, h.seen, h.lt, h.mold, h.chg, fun x hx => h.sl x (by simp [hx]), h.ss, h.sn⟩
theorem SMem.kept {w0 w w' : World} {mb g o c : Nat} {l S : List Pr} (h : SMem w0 w mb g o c l S) (hc : Chg (fun _ => False) w w') : SMem w0 w' mb g o c l S :=
  ⟨h.que.chg hc (fun x => x), h.seen.chg hc (fun x => x), h.lt, h.mold, h.chg.trans hc (fun _ x => x.elim), h.sl, h.ss, h.sn⟩

theorem pairsV_append (l m : List Pr) : pairsV (l ++ m) = pairsV l ++ pairsV m := by simp [pairsV]

/-- A pair has been seen, and those that come next are put at the end. -/
theorem SMem.push {w0 w w4 w5 w6 : World} {mb g o c g6 o6 c6 : Nat} {q : Pr} {l L S : List Pr} (h : SMem w0 w mb g o c l S) (hc4 : Chg (fun k => k = mb) w w4) (hs4 : Seen2 w4 mb (S ++ [q])) (hc5 : Chg (fun _ => False) w4 w5)
    (hq : QueB w6 2 g6 o6 c6 (l.length + L.length) (pairsV l ++ pairsV L)) (hg : g6 = g ∨ w5.heap.size ≤ g6) (hc6 : Chg (fun k => k = g) w5 w6) (hq4 : q.1 < 4 ∧ q.2 < 4) (hqS : q ∉ S) (hL : Small4 L) : SMem w0 w6 mb g6 o6 c6 (l ++ L) (S ++ [q]) := by
  have h1 := h.seen.lt
  have h2 := hc4.size
  have h3 := hc5.size
  have h4 := h.lt
  have h5 := h.mold
  have h6 := h.chg.size
  refine ⟨by rw [List.length_append, pairsV_append]; exact hq, (hs4.chg hc5 (fun x => x)).chg hc6 (by omega), by omega, h5, ?_, ?_, ?_, ?_⟩
  · exact ((h.chg.trans hc4 (fun k hk => .inr (by omega))).trans hc5 (fun _ x => x.elim)).trans hc6 (fun k hk => .inr (by omega))
  · intro x hx
    rcases List.mem_append.1 hx with hx | hx
    · exact h.sl x hx
    · exact hL x hx
  · intro x hx
    rcases List.mem_append.1 hx with hx | hx
    · exact h.ss x hx
    · simp at hx; subst hx; exact hq4
  · rw [List.nodup_append]
    refine ⟨h.sn, by simp, ?_⟩
    intro a ha b hb hab
    simp at hb
    subst hab
    subst hb
    exact hqS ha

set_option maxRecDepth 100000 in
set_option maxHeartbeats 1000000 in
theorem splits_any (u : Nat) (hu : u < 256) (w : World) : Calls Tryd.prog 24 #[.int .i64 u] w fun e w' => e = .returned (.bool (splitsV u)) ∧ Chg (fun _ => False) w w' := by
  have HI0 : Hid (∃ i0, Tryd.prog.info? 59 = some i0 ∧ i0.zero = some (.agg #[.int .i64 0, .int .i64 0]) ∧ i0.size = 2 ∧ i0.bytes = 16) := Lib.hid (by
    obtain ⟨i0, h0, h1, h2, h3⟩ := info_parts info59
    exact ⟨i0, h0, h1, h2, h3⟩)
  have hmm := @run_makeMap Tryd.prog
  have HU0 := Lib.hid ((Blk.new w #[.int .i64 (u : Int)] 35).cell_some (i := 0) rfl)
  have HC0 := Lib.hid ((Chg.refl (fun _ => False) w).alloc (.cells #[.int .i64 (u : Int)] 35))
  obtain ⟨ub, hub⟩ : ∃ ub, w.heap.size = ub := ⟨_, rfl⟩
  rw [hub] at HU0
  go_enter Tryd.func24, Tryd.ntmps24
  go_wp2_with fail
  clear hub
  generalize w.alloc (.cells #[.int .i64 (u : Int)] 35) = W0 at HU0 HC0 ⊢
  go_loopg [10] 4 (fun gm av wr => ∃ a : Nat, a ≤ 4 ∧ gm = 4 - a ∧ av = .int .i64 a ∧ splF u (4 * a) = false ∧ Chg (fun _ => False) W0 wr)
  case atStart => exact ⟨0, by omega, by omega, rfl, rfl, Chg.refl _ _⟩
  case round =>
    obtain ⟨a, ha, rfl, rfl, hsp, hchg⟩ := hrel
    have HSP := Lib.hid hsp; have HC := Lib.hid hchg
    clear hsp hchg
    by_cases ha4 : a < 4
    · have da : decide ((a : Int) < 4) = true := by simp; omega
      go_wp2_with fail
      go_loopg [13] 4 (fun gm bv wr => ∃ b : Nat, b ≤ 4 ∧ gm = 4 - b ∧ bv = .int .i64 b ∧ splF u (4 * a + b) = false ∧ Chg (fun _ => False) W0 wr)
      case atStart => exact ⟨0, by omega, by omega, rfl, HSP.out, HC.out⟩
      case round =>
        clear HSP HC
        obtain ⟨b, hb, rfl, rfl, hsp, hchg⟩ := hrel
        have HSP := Lib.hid hsp; have HC := Lib.hid hchg
        clear hsp hchg
        by_cases hb4 : b < 4
        · have db : decide ((b : Int) < 4) = true := by simp; omega
          have HSU : Hid (splF u (4 * a + (b + 1)) = spl u a b) := Lib.hid (by
            rw [show 4 * a + (b + 1) = (4 * a + b) + 1 by omega, splF, HSP.out, show (4 * a + b) / 4 = a by omega, show (4 * a + b) % 4 = b by omega]
            rfl)
          by_cases hab : a = b
          · have dab : ((a : Int) == (b : Int)) = true := by simp [hab]
            have HSF := Lib.hid (HSU.out.trans (show spl u a b = false by unfold spl; rw [hab]; simp))
            clear hab
            go_wp2_with fail
            go_roundg (4 - (b + 1))
            case measure => omega
            case rel => exact ⟨b + 1, by omega, rfl, by go_num, HSF.out, HC.out⟩
          · have dab : ((a : Int) == (b : Int)) = false := by simp; omega
            have HSR := Lib.hid (HSU.out.trans (show spl u a b = srchF u (a, b) 200 (nxV u (a, b)) [] by unfold spl; rw [bne_iff_ne.2 hab]; rfl))
            clear hab
            obtain ⟨mb, hmb⟩ : ∃ mb, wr.heap.size = mb := ⟨_, rfl⟩
            have HM0 : Hid (Seen2 (wr.alloc (.map #[] 0)) mb []) := Lib.hid (by
              have := World.ownsMap_made (H := Unit) wr Tryd.prog 59 (plainElem Tryd.prog 4)
              rw [hmb] at this
              exact this)
            have HC1 := Lib.hid (HC.out.alloc (.map #[] 0))
            have HMB := Lib.hid (show W0.heap.size ≤ mb by have := HC.out.size; omega)
            go_wp2_with fail
            clear hmb
            obtain ⟨W1, hW1⟩ : ∃ W1, wr.alloc (.map #[] 0) = W1 := ⟨_, rfl⟩
            rw [hW1] at HM0 HC1 ⊢
            clear hW1
            refine (nexts_any u (a, b) ub W1 hu ha4 hb4 (HC1.out.cell_some HU0.out (fun x => x))).mono ?_
            rintro e W2 ⟨v, rfl, hown, hcg⟩
            obtain ⟨htd, ao, c, hv⟩ := todo_start (fun q hq => nxF_small u (a, b) 4 q hq) HM0.out HMB.out HC1.out hown hcg
            have HTD := Lib.hid htd
            have hln := nxF_len u (a, b) 4
            clear htd hown hcg
            subst hv
            obtain ⟨R, hR⟩ : ∃ R, srchF u (a, b) 200 (nxV u (a, b)) [] = R := ⟨_, rfl⟩
            rw [hR] at HSR
            have HRR := Lib.hid hR
            clear hR
            go_wp2_with fail
            go_loopg [7] ((nxV u (a, b)).length + 64) (fun gm tv wr => ∃ (f : Nat) (l S : List Pr) (ao : Option Addr) (c : Nat), gm = l.length + 4 * (16 - S.length) ∧ gm ≤ f ∧ f ≤ 200 ∧ tv = .slice ao l.length c ∧ Todo W0 wr mb tv l S ∧ srchF u (a, b) f l S = R)
            case atStart => exact ⟨200, nxV u (a, b), [], ao, c, rfl, by unfold nxV; omega, by omega, rfl, HTD.out, HRR.out⟩
            case round =>
              clear HTD HRR HM0 HC1
              obtain ⟨f, l, S, ao', c', rfl, hf, hf200, rfl, htd, hR⟩ := hrel
              have HRR := Lib.hid hR; have HTD := Lib.hid htd
              clear hR htd
              cases l with
              | nil =>
                have hRF : R = false := by rw [← HRR.out, srch_end]
                have HSF := Lib.hid (HSR.out.trans hRF)
                have HCW : Hid (Chg (fun _ => False) W0 wr) := Lib.hid (by
                  rcases HTD.out with ⟨_, _, h⟩ | ⟨_, _, _, _, h⟩
                  · exact h
                  · exact h.chg)
                clear hRF
                go_wp2_with fail
                go_roundg (4 - (b + 1))
                case measure => omega
                case rel => exact ⟨b + 1, by omega, rfl, by go_num, HSF.out, HCW.out⟩
              | cons q l =>
                obtain ⟨g, o, c2, hvv, hsm⟩ := HTD.out.resolve_left (fun h => by cases h.1)
                obtain ⟨rfl, rfl⟩ : ao' = some ⟨g, o, none⟩ ∧ c' = c2 := by injection hvv with h1 _ h2; exact ⟨h1, h2⟩
                have HSM := Lib.hid hsm
                clear hsm hvv HTD
                have hqs := HSM.out.sl q (by simp)
                have c0 := HSM.out.que.at_ 0 (.int .i64 (q.1 : Int)) rfl
                have c1 := HSM.out.que.at_ 1 (.int .i64 (q.2 : Int)) rfl
                rw [Nat.add_zero] at c0
                have hf1 : f = (f - 1) + 1 := by simp at hf; omega
                obtain ⟨F, rfl⟩ : ∃ F, f = F + 1 := ⟨_, hf1⟩
                clear hf1
                obtain ⟨ab, hab⟩ : ∃ ab, wr.heap.size = ab := ⟨_, rfl⟩
                have HAB := Lib.hid (Blk.new wr #[.int .i64 (q.1 : Int), .int .i64 (q.2 : Int)] 59)
                rw [hab] at HAB
                have hlen : (q :: l).length = l.length + 1 := rfl
                obtain ⟨n, hn⟩ : ∃ n, (q :: l).length = n := ⟨_, rfl⟩
                have HN := Lib.hid hn
                rw [hn] at hlen ⊢
                clear hn
                have hn0 : 0 < n := by omega
                have dn : decide ((0 : Int) < (n : Int)) = true := by simp; omega
                have hsl := fun w' => slice_que2 w' g o n c' hn0
                obtain ⟨o2, ho2⟩ : ∃ o2, (if c' = 1 then o else o + 2) = o2 := ⟨_, rfl⟩
                simp only [ho2, show n - 1 = l.length by omega] at hsl
                have HO2 := Lib.hid ho2
                have HLEN := Lib.hid hlen
                have HLF := Lib.hid (show l.length + 4 * (16 - S.length) ≤ F by have h2 := hf; simp only [List.length_cons] at h2; omega)
                clear ho2 hlen
                have HT := Lib.hid ((HSM.out.tail).kept ((Chg.refl (fun _ => False) wr).alloc (.cells #[.int .i64 (q.1 : Int), .int .i64 (q.2 : Int)] 59)))
                rw [HO2.out] at HT
                have heq := fun w' => eq_pairs hqs (show (a, b).1 < 4 ∧ (a, b).2 < 4 from ⟨ha4, hb4⟩) w'
                by_cases hqp : q = (a, b)
                · have HRT := Lib.hid (show R = true by rw [← HRR.out, srch_hit hqp])
                  have HSF : Hid (splitsV u = true) := Lib.hid (splF_mono (HSR.out.trans HRT.out) (by omega))
                  simp only [decide_eq_true hqp] at heq
                  clear hqp
                  go_wp2_with fail
                  go_ret
                  exact ⟨by rw [HSF.out]; rfl, HC0.out.trans HT.out.chg (fun _ x => x.elim)⟩
                · simp only [decide_eq_false hqp] at heq
                  have hlook := fun w' (h : Seen2 w' mb S) => h.look HSM.out.ss hqs
                  by_cases hin : q ∈ S
                  · have HRT := Lib.hid (show srchF u (a, b) F l S = R by rw [← HRR.out, srch_old hqp hin])
                    have hl := hlook _ HT.out.seen
                    rw [decide_eq_true hin] at hl
                    unfold prV at hl
                    clear hqp hin hlook
                    go_wp2_with fail
                    go_roundg (l.length + 4 * (16 - S.length))
                    case measure => omega
                    case rel => exact ⟨F, l, S, _, _, rfl, by have := HLF.out; omega, by omega, rfl, .inr ⟨g, o2, c' - 1, rfl, HT.out⟩, HRT.out⟩
                  · have HRT := Lib.hid (show srchF u (a, b) F (l ++ nxV u q) (S ++ [q]) = R by rw [← HRR.out, srch_new hqp hin])
                    have hl := hlook _ HT.out.seen
                    rw [decide_eq_false hin] at hl
                    have hS16 := pairs16 HT.out.sn HT.out.ss
                    obtain ⟨w4, hput, hs4, hc4⟩ := HT.out.seen.put (by omega) hqs
                    unfold prV at hl hput
                    have hsq : (S ++ [q]).length ≤ 16 := pairs16 (S := S ++ [q]) (by
                      rw [List.nodup_append]
                      refine ⟨HT.out.sn, by simp, ?_⟩
                      intro x hx y hy hxy
                      simp at hy
                      subst hxy
                      subst hy
                      exact hin hx) (by
                      intro x hx
                      rcases List.mem_append.1 hx with hx | hx
                      · exact HT.out.ss x hx
                      · simp at hx; subst hx; exact hqs)
                    rw [List.length_append, List.length_singleton] at hsq
                    have HIN := Lib.hid hin
                    have hmw := HSM.out.seen.lt
                    have hub := World.cell_lt HU0.out
                    have hmo := HSM.out.mold
                    have HUW := Lib.hid (hc4.cell_some (HT.out.chg.cell_some HU0.out (fun x => x)) (show ¬ ub = mb by dsimp only at hub; omega))
                    have hbk := hc4.blk HAB.out (show ¬ ab = mb by omega)
                    have d0 := hbk.cell_some (i := 0) rfl
                    have d1 := hbk.cell_some (i := 1) rfl
                    have HS4 := Lib.hid hs4; have HC4 := Lib.hid hc4
                    have HQ4 := Lib.hid (HT.out.que.chg hc4 (show ¬ g = mb by have := HT.out.lt; omega))
                    clear hqp hin hlook hs4 hc4 hbk hmw hub hmo
                    go_wp2_with fail
                    refine (nexts_any u q ub w4 hu hqs.1 hqs.2 HUW.out).mono ?_
                    rintro e w5 ⟨v, rfl, hown, hcg⟩
                    have hnl := nxF_len u q 4
                    obtain ⟨ao5, c5, rfl, hx5⟩ := owns_form hown
                    have HC5 := Lib.hid hcg; have HQ5 := Lib.hid (HQ4.out.chg hcg (fun x => x)); have HX5 := Lib.hid hx5
                    have HM5 : Hid (∀ x ∈ pairsV (nxV u q), x.oneCell' = true) := Lib.hid (by
                      intro x hx
                      obtain ⟨y, hy, hxy⟩ := List.mem_flatMap.1 hx
                      simp [pairV] at hxy
                      rcases hxy with rfl | rfl <;> rfl)
                    have HP5 := Lib.hid (pairsV_len (nxV u q))
                    have HL4 : Hid (Small4 (nxV u q)) := Lib.hid (nxF_small u q 4)
                    obtain ⟨L, hL⟩ : ∃ L, nxV u q = L := ⟨_, rfl⟩
                    have hnl4 : L.length ≤ 4 := by rw [← hL]; exact hnl
                    rw [hL] at HX5 HM5 HP5 HL4 HRT ⊢
                    clear hown hcg hx5 hL hnl hput hl heq d0 d1 c0 c1 hsl
                    have hnn : l.length ≤ 100000 := by
                      have := HLF.out
                      omega
                    go_wp2_with (at_builtin; refine wpList_append_queA rfl (.tmp 44) (.tmp 47) 60 rfl 59 HI0.out.choose _ 2 16 Tryd.underlying60 HI0.out.choose_spec.1 HI0.out.choose_spec.2.1 HI0.out.choose_spec.2.2.1 HI0.out.choose_spec.2.2.2 rfl (by decide) g o2 (c' - 1) l.length _ (by simp [Act.eval]) HQ5.out ao5 L.length c5 (pairsV L) (by simp [Act.eval]) HP5.out (by
                      by_cases hm : L.length = 0
                      · exact .inl hm
                      · obtain ⟨g5, h1, h2, h3, h4⟩ := HX5.out (by omega)
                        exact .inr ⟨_, h1, fun j u hj => by rw [add_plain, Nat.zero_add]; exact h4 j u hj⟩) HM5.out (by unfold maxLen; omega) (by omega) ?_)
                    intro g6 o6 c6 w6 hq6 hg6 hc6
                    have HM6 := Lib.hid (HT.out.push HC4.out HS4.out HC5.out hq6 hg6 hc6 hqs HIN.out HL4.out)
                    have HLL := Lib.hid (show (l ++ L).length = l.length + L.length by simp)
                    have HSS := Lib.hid (show (S ++ [q]).length = S.length + 1 by simp)
                    clear hq6 hg6 hc6
                    go_wp2_with fail
                    go_roundg ((l ++ L).length + 4 * (16 - (S ++ [q]).length))
                    case measure => rw [HLL.out, HSS.out]; (try simp only [List.length_cons]); omega
                    case rel => exact ⟨F, l ++ L, S ++ [q], _, _, rfl, by rw [HLL.out, HSS.out]; have := HLF.out; omega, by omega, by rw [HLL.out], .inr ⟨g6, o6, c6, by rw [HLL.out], HM6.out⟩, HRT.out⟩
        · obtain rfl : b = 4 := by omega
          go_wp2_with fail
          go_roundg (4 - (a + 1))
          case measure => omega
          case rel => exact ⟨a + 1, by omega, rfl, by go_num, HSP.out, HC.out⟩
    · obtain rfl : a = 4 := by omega
      have HSF : Hid (splitsV u = false) := Lib.hid HSP.out
      go_wp2_with fail
      go_ret
      exact ⟨by rw [HSF.out]; rfl, HC0.out.trans HC.out (fun _ x => x.elim)⟩
end Go.Proofs.YtdopmafhdhahiaaDoor
