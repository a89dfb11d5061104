/- The walk of the statement TurnTurned: it returns true and changes nothing that was there. Its conditions are its premises. -/
import Derived.Test.YtgamekcjjpjnnaaM11
import Derived.Test.YtgamekcjjpjnnaaA33
import Derived.Test.YtgamekcjjpjnnaaA32
import Derived.Test.YtgamekcjjpjnnaaL1
set_option linter.unusedVariables false
namespace Go.Proofs.Ytgamekcjjpjnnaa
open Go.RowKit

def spCells (s : Sp) : List Value := [.int .i64 s.src, .int .i64 s.dst, .int .i64 s.lo, .int .i64 s.hi]

theorem spsCells_get : ∀ (l : List Sp) (k : Nat) (hk : k < l.length) (j : Nat) (hj : j < 4), (l.flatMap spCells)[k * 4 + j]? = (spCells l[k])[j]? := by
  intro l
  induction l with
  | nil => intro k hk; simp at hk
  | cons s l ih =>
    intro k hk j hj
    cases k with
    | zero => rw [List.flatMap_cons, List.getElem?_append_left (by simp [spCells]; omega)]; simp
    | succ k =>
      rw [List.flatMap_cons, List.getElem?_append_right (by simp [spCells]; omega)]
      simp only [spCells, List.length_cons, List.length_nil, List.getElem_cons_succ]
      rw [show (k + 1) * 4 + j - (0 + 1 + 1 + 1 + 1) = k * 4 + j by omega]
      exact ih k (by simpa using hk) j hj

theorem spsCells_len (l : List Sp) : (l.flatMap spCells).length = l.length * 4 := by
  induction l with
  | nil => rfl
  | cons s l ih => rw [List.flatMap_cons, List.length_append, ih]; simp [spCells]; omega

theorem owns_spans {w : World} {base : Nat} {v : Value} {n : Nat} {l : List Sp} (h : w.ownsRow base 32 4 v n (l.flatMap spCells)) :
    ∃ ao g c, v = .slice ao l.length c ∧ (l = [] ∨ ao = some ⟨g, 0, none⟩) ∧ SpansAt w g 0 l ∧ base ≤ g ∧ (l ≠ [] → g < w.heap.size) := by
  have hn : n = l.length := by have := h.1; rw [spsCells_len] at this; omega
  subst hn
  obtain ⟨ao, c, rfl, hf⟩ := owns_form h
  by_cases hl : l = []
  · subst hl
    exact ⟨ao, base, c, rfl, .inl rfl, fun k hk => by simp at hk, Nat.le_refl _, fun h => absurd rfl h⟩
  · have h0 : 0 < l.length := by cases l with | nil => exact absurd rfl hl | cons => simp
    obtain ⟨g, rfl, hg1, hg2, hcells⟩ := hf h0
    refine ⟨_, g, c, rfl, .inr rfl, fun k hk => ⟨?_, ?_, ?_, ?_⟩, hg1, fun _ => hg2⟩
    · rw [Nat.zero_add]; exact hcells _ _ ((spsCells_get l k hk 0 (by omega)).trans rfl)
    · rw [Nat.zero_add]; exact hcells _ _ ((spsCells_get l k hk 1 (by omega)).trans rfl)
    · rw [Nat.zero_add]; exact hcells _ _ ((spsCells_get l k hk 2 (by omega)).trans rfl)
    · rw [Nat.zero_add]; exact hcells _ _ ((spsCells_get l k hk 3 (by omega)).trans rfl)

theorem info32 : (Try.prog.info? 32).map (fun i => (i.zero, i.size, i.bytes)) = some (some (.agg #[.int .i64 0, .int .i64 0, .int .i64 0, .int .i64 0]), 4, 32) := by kernel_rfl

set_option maxRecDepth 100000 in
set_option maxHeartbeats 4000000 in
theorem turned_law (t n : Int) (l : List Sp) (a : Option Addr) (cap b off : Nat) (R : List Int) (ar : Option Addr) (cr br or_ : Nat) (w : World) (ht : (Lit.int .i64 t).wf = true) (hn : (Lit.int .i64 n).wf = true)
    (hs : SpansAt w b off l) (ha : l = [] ∨ a = some ⟨b, off, none⟩) (_ : ∀ s ∈ l, s.I64) (hR : IntsAt w br or_ R) (har : R = [] ∨ ar = some ⟨br, or_, none⟩) (hI : ∀ x ∈ R, I64 x) :
    Calls Try.prog 8 #[.int .i64 t, .int .i64 n, .slice a l.length cap, .slice ar R.length cr] w (TPost w) := by
  obtain ⟨i0, hi0, hz0, hz1, hz2⟩ := info_parts info3
  have HI0 := Lib.hid hi0; have HZ0 := Lib.hid hz0; have HZ1 := Lib.hid hz1; have HZ2 := Lib.hid hz2
  obtain ⟨j0, hj0, hy0, hy1, hy2⟩ := info_parts info32
  have HJ0 := Lib.hid hj0; have HY0 := Lib.hid hy0; have HY1 := Lib.hid hy1; have HY2 := Lib.hid hy2
  have HS := Lib.hid hs; have HA := Lib.hid ha; have HR := Lib.hid hR; have HAR := Lib.hid har
  have HT := Lib.hid (i64_of ht); have HN := Lib.hid (i64_of hn)
  clear hs ha hR har hI hi0 hz0 hz1 hz2 hj0 hy0 hy1 hy2 ht hn
  by_cases hf : l.length ≤ 40 ∧ R.length ≤ 40
  · have d40 : decide (l.length ≤ 40 ∧ R.length ≤ 40 ∧ 0 ≤ 40) = true := by rw [decide_eq_true_eq]; omega
    have hR40 := hf.2
    clear hf
    go_enter Try.func8, Try.ntmps8
    go_wp2_with fail
    refine (few_any a ar none l.length R.length 0 cap cr 0 w).mono ?_
    rw [d40]
    rintro e w' ⟨rfl, rfl⟩
    go_wp2_with fail
    refine (mild_any t n w' HT.out HN.out).mono ?_
    rintro e w'' ⟨bm, rfl, rfl, hm⟩
    have HM := Lib.hid hm
    clear hm
    obtain ⟨w', rfl⟩ : ∃ W : World, W = w'' := ⟨_, rfl⟩
    cases bm with
    | false =>
      have HCX := Lib.hid (Chg.refl (fun _ => False) w')
      go_wp2_with fail
      refine (alive_any _).mono ?_
      rintro e w9 ⟨rfl, hc9⟩
      have HC9 := Lib.hid (HCX.out.trans hc9 (fun _ x => x.elim))
      clear hc9
      go_wp2_with fail
      go_ret
      exact ⟨rfl, HC9.out⟩
    | true =>
      go_wp2_with fail
      refine (spans_any t n l a cap w' b off HS.out HA.out).mono ?_
      rintro e w1 ⟨rfl, x, rfl⟩
      have HC1 := Lib.hid (grow_chg w' x)
      generalize w'.grow x = w1 at HC1 ⊢
      by_cases h0 : spansE t n l = 0
      · rw [h0]
        have hv := valid_of h0
        obtain ⟨T, rfl⟩ : ∃ T : Nat, t = T := ⟨t.toNat, by have := hv.t1; omega⟩
        obtain ⟨N, rfl⟩ : ∃ N : Nat, n = N := ⟨n.toNat, by have := hv.n1; omega⟩
        have H0 := Lib.hid h0; have HV := Lib.hid hv
        have ht1 := hv.t1; have ht2 := hv.t2; have hn1 := hv.n1; have hn2 := hv.n2; have hl20 := hv.len
        have hpm := HM.out (by simp) T N rfl rfl (by omega) (by omega) (by omega) (by omega)
        have hpl := plans_len (l := l) (T := T) (N := N) (by omega) (by omega)
        have hpe := plansE_few h0 (by omega)
        obtain ⟨Q, hQ⟩ : ∃ Q, opp l = Q := ⟨_, rfl⟩
        have hQl : Q.length = l.length := by rw [← hQ]; exact opp_len l
        have HQ := Lib.hid hQ; have HQL := Lib.hid hQl
        have HPQ := Lib.hid (show spansE (T : Int) (N : Int) Q = 0 → plansE (T : Int) (N : Int) Q = plansE (T : Int) (N : Int) l from fun h => by
          have hp2 : plans T N Q = plans T N l := by rw [← hQ]; exact opp_plans hv
          rw [plansE_few h (by rw [hp2]; omega), hp2, hpe])
        have HPE := Lib.hid hpe
        clear h0 hv hpm hpl hQ hQl hpe
        go_wp2_with fail
        go_loopg [9, 10] l.length (fun g v iv wr => ∃ i : Nat, i ≤ l.length ∧ g = l.length - i ∧ iv = .int .i64 i ∧ wr.ownsRow w1.heap.size 32 4 v i ((Q.take i).flatMap spCells) ∧ Chg (fun _ => False) w1 wr)
        case atStart => exact ⟨0, by omega, by omega, rfl, World.ownsRow_nil _ _ _ _, Chg.refl _ w1⟩
        case round =>
          obtain ⟨i, hi, rfl, rfl, hown, hcg⟩ := hrel
          have HOWN := Lib.hid hown; have HCG := Lib.hid hcg
          clear hown hcg
          by_cases hlt : i < l.length
          · have hne : a = some ⟨b, off, none⟩ := HA.out.resolve_left (by intro h; simp [h] at hlt)
            subst hne
            obtain ⟨c0, c1, c2, c3⟩ := HS.out.chg (HC1.out.trans HCG.out (fun _ x => x.elim)) (fun x => x) i hlt
            have hok := HV.out.ok _ (List.getElem_mem hlt)
            obtain ⟨s, hs⟩ : ∃ s, l[i] = s := ⟨_, rfl⟩
            rw [hs] at c0 c1 c2 c3 hok
            have hQi : Q.take (i + 1) = Q.take i ++ [oppS s] := by
              rw [List.take_succ_eq_append_getElem (by have := HQL.out; omega)]
              congr 2
              rw [← hs]
              simp [← HQ.out, opp]
            have HQI := Lib.hid (show (Q.take (i + 1)).flatMap spCells = (Q.take i).flatMap spCells ++ [.int .i64 s.dst, .int .i64 s.src, .int .i64 (-s.hi), .int .i64 (-s.lo)] by rw [hQi, List.flatMap_append]; rfl)
            have hb5 : b < wr.heap.size := World.cell_lt c0
            have hsz5 : w1.heap.size ≤ wr.heap.size := HCG.out.size
            have hw1 : IntKind.i64.wrap (-s.hi) = -s.hi := by rw [IntKind.wrap_i64]; omega
            have hw2 : IntKind.i64.wrap (-s.lo) = -s.lo := by rw [IntKind.wrap_i64]; omega
            have HOW : Hid (∀ o, (wr.alloc o).drew.ownsRow w1.heap.size 32 4 _ i ((Q.take i).flatMap spCells)) := Lib.hid (fun o => HOWN.out.alloc o)
            have HNEW : Hid (∀ j u, [Value.int .i64 s.dst, .int .i64 s.src, .int .i64 (-s.hi), .int .i64 (-s.lo)][j]? = some u → (wr.alloc (Obj.cells #[.int .i64 s.dst, .int .i64 s.src, .int .i64 (-s.hi), .int .i64 (-s.lo)] 32)).drew.cell? ((⟨wr.heap.size, 0, none⟩ : Addr).add j) = some u) := Lib.hid (fun j u hu => by
              rw [add_plain, Nat.zero_add]
              exact (Blk.new wr #[.int .i64 s.dst, .int .i64 s.src, .int .i64 (-s.hi), .int .i64 (-s.lo)] 32).drew.cell_some hu)
            have hml : (i + 1) * 32 ≤ 140737488355328 := by omega
            have hmm : i + 1 ≤ maxLen := by simp [maxLen]; omega
            clear hs hQi hok
            go_wp2_with fail
            go_region_law (refine step_append_two rfl (.tmp 45) (.tmp 69) 22 rfl w1.heap.size 32 j0 _ 4 32 Try.underlying22 HJ0.out HY0.out HY1.out HY2.out rfl (by decide) _ i ((Q.take i).flatMap spCells) (by first | (simp [Act.eval]; done) | (simp [Act.eval]; rfl)) (HOW.out _) ⟨wr.heap.size, 0, none⟩ 1 1 [.int .i64 s.dst, .int .i64 s.src, .int .i64 (-s.hi), .int .i64 (-s.lo)] (by simp [Act.eval]) rfl HNEW.out (by intro u hu; simp at hu; rcases hu with rfl | rfl | rfl | rfl <;> rfl) hmm hml (by simp; omega) ?_; intro v2 w6 hown2 hgrow2 hwhere2)
            all_goals
              have HOWN2 := Lib.hid hown2; have HGROW2 := Lib.hid hgrow2
              clear hown2 hgrow2 hwhere2 hw1 hw2 c0 c1 c2 c3
              go_wp2_with fail
              go_roundg (l.length - (i + 1))
              case measure => omega
              case rel =>
                refine ⟨i + 1, by omega, rfl, by go_num, by rw [HQI.out]; exact HOWN2.out, ?_⟩
                exact ((HCG.out.alloc _).drew).trans (Chg.of_grownRow HGROW2.out) (fun kk hk => .inr (((HOW.out (Obj.cells #[.int .i64 s.dst, .int .i64 s.src, .int .i64 (-s.hi), .int .i64 (-s.lo)] 32)).lt kk hk.symm).1))
          · obtain rfl : i = l.length := by omega
            have how := HOWN.out
            rw [show Q.take l.length = Q from List.take_of_length_le (by have := HQL.out; omega)] at how
            obtain ⟨aq, gq, cq, rfl, hq1, hq2, hq3, hq4⟩ := owns_spans how
            have HQ1 := Lib.hid hq1; have HQ2 := Lib.hid hq2
            have HC2 := Lib.hid (HC1.out.trans HCG.out (fun _ x => x.elim))
            clear how hq1 hq2 hq4 hlt
            go_wp2_with fail
            refine (spans_any T N Q aq cq wr gq 0 HQ2.out HQ1.out).mono ?_
            rintro e w2 ⟨rfl, x, rfl⟩
            have HC3 := Lib.hid (HC2.out.grow x); have HQ3 := Lib.hid (HQ2.out.chg (grow_chg wr x) (fun x => x))
            generalize wr.grow x = w2 at HC3 HQ3 ⊢
            by_cases hq0 : spansE (T : Int) (N : Int) Q = 0
            · rw [hq0]
              have HQ0 := Lib.hid hq0
              clear hq0
              go_wp2_with fail
              go_loopg [11, 12] R.length (fun g v iv wr => ∃ i : Nat, i ≤ R.length ∧ g = R.length - i ∧ iv = .int .i64 i ∧ wr.ownsRow w2.heap.size 3 1 v i (((negR R).take i).map (Value.int .i64)) ∧ Chg (fun _ => False) w2 wr)
              case atStart => exact ⟨0, by omega, by omega, rfl, World.ownsRow_nil _ _ _ _, Chg.refl _ w2⟩
              case round =>
                obtain ⟨i, hi, rfl, rfl, hown, hcg⟩ := hrel
                have HOWN := Lib.hid hown; have HCG := Lib.hid hcg
                clear hown hcg
                by_cases hlt : i < R.length
                · have hne : ar = some ⟨br, or_, none⟩ := HAR.out.resolve_left (by intro h; simp [h] at hlt)
                  subst hne
                  have gk := HR.out.chg (HC3.out.trans HCG.out (fun _ x => x.elim)) (fun x => x) i hlt
                  rw [hr_get] at gk
                  obtain ⟨x, hx⟩ : ∃ x, hr R i = x := ⟨_, rfl⟩
                  rw [hx] at gk
                  have HRI := Lib.hid (show ((negR R).take (i + 1)).map (Value.int .i64) = ((negR R).take i).map (Value.int .i64) ++ [.int .i64 (-x)] by
                    rw [List.take_succ_eq_append_getElem (by rw [negR_len]; exact hlt), hr_get, negR_hr, hx, List.map_append]; rfl)
                  clear hx
                  by_cases hx1 : x < -20
                  · have d1 : decide (x < -20) = true := by simpa using hx1
                    have HCX := Lib.hid (HC3.out.trans HCG.out (fun _ x => x.elim))
                    clear hx1
                    go_wp2_with fail
                    refine (alive_any _).mono ?_
                    rintro e w9 ⟨rfl, hc9⟩
                    have HC9 := Lib.hid (HCX.out.trans hc9 (fun _ x => x.elim))
                    clear hc9
                    go_wp2_with fail
                    go_ret
                    exact ⟨rfl, HC9.out⟩
                  · have d1 : decide (x < -20) = false := by simpa using hx1
                    by_cases hx2 : 20 < x
                    · have d2 : decide (20 < x) = true := by simpa using hx2
                      have HCX := Lib.hid (HC3.out.trans HCG.out (fun _ x => x.elim))
                      clear hx1 hx2
                      go_wp2_with fail
                      refine (alive_any _).mono ?_
                      rintro e w9 ⟨rfl, hc9⟩
                      have HC9 := Lib.hid (HCX.out.trans hc9 (fun _ x => x.elim))
                      clear hc9
                      go_wp2_with fail
                      go_ret
                      exact ⟨rfl, HC9.out⟩
                    · have d2 : decide (20 < x) = false := by simpa using hx2
                      have hsz5 : w2.heap.size ≤ wr.heap.size := HCG.out.size
                      have HNEW : Hid (∀ j u, [Value.int .i64 (-x)][j]? = some u → (wr.alloc (Obj.cells #[.int .i64 (-x)] 3)).cell? ((⟨wr.heap.size, 0, none⟩ : Addr).add j) = some u) := Lib.hid (fun j u hu => by
                        rw [add_plain, Nat.zero_add]
                        exact (Blk.new wr #[.int .i64 (-x)] 3).cell_some hu)
                      have hml : (i + 1) * 8 ≤ 140737488355328 := by omega
                      have hmm : i + 1 ≤ maxLen := by simp [maxLen]; omega
                      go_wp2_with (at_builtin; refine wpList_append_two rfl (.tmp 96) (.tmp 102) 25 rfl w2.heap.size 3 i0 (.int .i64 0) 1 8 Try.underlying25 HI0.out HZ0.out HZ1.out HZ2.out rfl (by decide) _ i (((negR R).take i).map (Value.int .i64)) rfl (HOWN.out.alloc _) ⟨wr.heap.size, 0, none⟩ 1 1 [.int .i64 (-x)] rfl rfl HNEW.out (by intro u hu; simp at hu; subst hu; rfl) hmm hml (by simp; omega) ?_; intro v1 w5 hown1 hgrow1 hwhere1; have HOWN1 := Lib.hid hown1; have HGROW1 := Lib.hid hgrow1; clear hown1 hgrow1 hwhere1)
                      go_roundg (R.length - (i + 1))
                      case measure => omega
                      case rel => exact ⟨i + 1, by omega, rfl, by go_num, by rw [HRI.out]; exact HOWN1.out, (HCG.out.alloc _).trans (Chg.of_grownRow HGROW1.out) (fun kk hk => .inr ((HOWN.out.lt kk hk.symm).1))⟩
                · obtain rfl : i = R.length := by omega
                  have how := HOWN.out
                  rw [show (negR R).take R.length = negR R from List.take_of_length_le (by rw [negR_len]; exact Nat.le_refl _)] at how
                  obtain ⟨Z, hZ⟩ : ∃ Z, negR R = Z := ⟨_, rfl⟩
                  have hZl : Z.length ≤ 40 := by rw [← hZ, negR_len]; exact hR40
                  rw [hZ] at how
                  have HZZ := Lib.hid hZ
                  obtain ⟨az, gz, cz, rfl, hz1, hz2, hz3⟩ := owns_list how
                  have HZ1' := Lib.hid hz1; have HZ2' := Lib.hid hz2
                  have HC4 := Lib.hid (HC3.out.trans HCG.out (fun _ x => x.elim)); have HQ4 := Lib.hid (HQ3.out.chg HCG.out (fun x => x))
                  obtain ⟨p1, p2, hpp⟩ : ∃ p1 p2, plansE (T : Int) (N : Int) l = (p1, p2) := ⟨_, _, rfl⟩
                  have hp2 : p2 = 0 := by have := HPE.out; rw [hpp] at this; cases this; rfl
                  subst hp2
                  have HPP := Lib.hid hpp; have HPQ2 := Lib.hid ((HPQ.out HQ0.out).trans hpp)
                  clear how hZ hz1 hz2 hlt hpp
                  go_wp2_with fail
                  refine (Plans_any T N l a cap wr b off (HS.out.chg HC4.out (fun x => x)) HA.out).mono ?_
                  rw [HPP.out]
                  rintro e w7 ⟨rfl, hc7⟩
                  have HC7 := Lib.hid (HC4.out.trans hc7 (fun _ x => x.elim)); have HQ7 := Lib.hid (HQ4.out.chg hc7 (fun x => x)); have HZ7 := Lib.hid (HZ2'.out.chg hc7 (fun x => x))
                  clear hc7
                  go_wp2_with fail
                  refine (Plans_any T N Q aq cq w7 gq 0 HQ7.out HQ1.out).mono ?_
                  rw [HPQ2.out]
                  rintro e w8 ⟨rfl, hc8⟩
                  have HC8 := Lib.hid (HC7.out.trans hc8 (fun _ x => x.elim)); have HQ8 := Lib.hid (HQ7.out.chg hc8 (fun x => x)); have HZ8 := Lib.hid (HZ7.out.chg hc8 (fun x => x))
                  clear hc8
                  go_wp2_with fail
                  refine (Refuses_any T N l a cap R ar cr w8 b off br or_ (HS.out.chg HC8.out (fun x => x)) HA.out (HR.out.chg HC8.out (fun x => x)) HAR.out hR40).mono ?_
                  rintro e w9 ⟨b1, rfl, hb1, hc9⟩
                  have HB1 := Lib.hid hb1
                  have HC9 := Lib.hid (HC8.out.trans hc9 (fun _ x => x.elim)); have HQ9 := Lib.hid (HQ8.out.chg hc9 (fun x => x)); have HZ9 := Lib.hid (HZ8.out.chg hc9 (fun x => x))
                  rw [H0.out]
                  clear hc9 hb1
                  go_wp2_with fail
                  refine (Refuses_any T N Q aq cq Z az cz w9 gq 0 gz 0 HQ9.out HQ1.out HZ9.out HZ1'.out hZl).mono ?_
                  rintro e w10 ⟨b2, rfl, hb2, hc10⟩
                  have HCX := Lib.hid (HC9.out.trans hc10 (fun _ x => x.elim))
                  obtain rfl : b1 = b2 := by
                    rw [Bool.eq_iff_iff, HB1.out, hb2, ← HQ.out, ← HZZ.out]
                    exact (opp_refP H0.out (by rw [HQ.out]; exact HQ0.out)).symm
                  rw [HQ0.out]
                  clear hc10 hb2
                  go_wp2_with fail
                  refine (alive_any _).mono ?_
                  rintro e w9 ⟨rfl, hc9⟩
                  have HC9 := Lib.hid (HCX.out.trans hc9 (fun _ x => x.elim))
                  clear hc9
                  go_wp2_with fail
                  go_ret
                  exact ⟨rfl, HC9.out⟩
            · have hq : (spansE (T : Int) (N : Int) Q != 0) = true := by simpa using hq0
              have HCX := HC3
              clear hq0
              go_wp2_with fail
              refine (alive_any _).mono ?_
              rintro e w9 ⟨rfl, hc9⟩
              have HC9 := Lib.hid (HCX.out.trans hc9 (fun _ x => x.elim))
              clear hc9
              go_wp2_with fail
              go_ret
              exact ⟨rfl, HC9.out⟩
      · have hq : (spansE t n l != 0) = true := by simpa using h0
        have HCX := HC1
        clear h0
        go_wp2_with fail
        refine (alive_any _).mono ?_
        rintro e w9 ⟨rfl, hc9⟩
        have HC9 := Lib.hid (HCX.out.trans hc9 (fun _ x => x.elim))
        clear hc9
        go_wp2_with fail
        go_ret
        exact ⟨rfl, HC9.out⟩
  · have d40 : decide (l.length ≤ 40 ∧ R.length ≤ 40 ∧ 0 ≤ 40) = false := by rw [decide_eq_false_iff_not]; omega
    clear hf
    go_enter Try.func8, Try.ntmps8
    go_wp2_with fail
    refine (few_any a ar none l.length R.length 0 cap cr 0 w).mono ?_
    rw [d40]
    rintro e w' ⟨rfl, rfl⟩
    have HCX := Lib.hid (Chg.refl (fun _ => False) w')
    go_wp2_with fail
    refine (alive_any _).mono ?_
    rintro e w9 ⟨rfl, hc9⟩
    have HC9 := Lib.hid (HCX.out.trans hc9 (fun _ x => x.elim))
    clear hc9
    go_wp2_with fail
    go_ret
    exact ⟨rfl, HC9.out⟩
end Go.Proofs.Ytgamekcjjpjnnaa
