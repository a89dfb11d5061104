/- The walk of the statement TurnPlans: it returns true and changes nothing that was there. Its conditions are its premises. -/
import Derived.Test.YtgamekcjjpjnnaaL9
import Derived.Test.YtgamekcjjpjnnaaA32
import Derived.Test.YtgamekcjjpjnnaaM10
import Derived.Test.YtgamekcjjpjnnaaR7
set_option linter.unusedVariables false
namespace Go.Proofs.Ytgamekcjjpjnnaa
open Go.RowKit

theorem spans_cell2 {w : World} {b off : Nat} {l : List Sp} (h : SpansAt w b off l) {j : Nat} {u : Value} (hu : (l.flatMap spCells)[j]? = some u) : w.cell? ⟨b, off + j, none⟩ = some u := by
  have hlt := (List.getElem?_eq_some_iff.1 hu).1
  rw [spsCells_len] at hlt
  obtain ⟨k, r, rfl, hr⟩ : ∃ k r, j = k * 4 + r ∧ r < 4 := ⟨j / 4, j % 4, by omega, by omega⟩
  have hk : k < l.length := by omega
  rw [spsCells_get l k hk r hr] at hu
  obtain ⟨c0, c1, c2, c3⟩ := h k hk
  have : r = 0 ∨ r = 1 ∨ r = 2 ∨ r = 3 := by omega
  rcases this with rfl | rfl | rfl | rfl <;> simp [spCells] at hu <;> subst hu
  · exact c0
  · rw [← Nat.add_assoc]; exact c1
  · rw [← Nat.add_assoc]; exact c2
  · rw [← Nat.add_assoc]; exact c3

theorem short_len (t n : Int) (l : List Sp) (hf : spansE t n l = 0 → (plans t.toNat n.toNat l).length ≤ 10000) : (shortE t n l).1.length ≤ 1000 := by
  by_cases h0 : spansE t n l = 0
  · have hv := valid_of h0
    have hfw := hf h0
    obtain ⟨T, rfl⟩ : ∃ T : Nat, t = T := ⟨t.toNat, by have := hv.t1; omega⟩
    obtain ⟨N, rfl⟩ : ∃ N : Nat, n = N := ⟨n.toNat, by have := hv.n1; omega⟩
    rw [Int.toNat_natCast, Int.toNat_natCast] at hfw
    rcases shortE_few h0 (by omega) with ⟨_, h⟩ | ⟨X, hX, h, _⟩
    · rw [h]; simp
    · rw [h]
      have h1 := (plans_mem.1 hX).1.1
      have := hv.n2
      show X.length ≤ 1000
      omega
  · rw [shortE_err h0]; simp

theorem own_facts {w w1 : World} {v : Value} {n : Nat} {l : List Sp} (hown : w1.ownsRow w.heap.size 32 4 v n ([] ++ l.flatMap spCells)) (hg : (w.alloc (.cells #[] 32)).grownBy w1 (Value.slice (some ⟨w.heap.size, 0, none⟩) 0 0).ownBlock) :
    ∃ ao g c, v = .slice ao l.length c ∧ (l = [] ∨ ao = some ⟨g, 0, none⟩) ∧ SpansAt w1 g 0 l ∧ Chg (fun _ => False) w w1 := by
  rw [List.nil_append] at hown
  obtain ⟨ao, g, c, h1, h2, h3, _⟩ := owns_spans hown
  refine ⟨ao, g, c, h1, h2, h3, ((Chg.refl (fun _ => False) w).alloc (.cells #[] 32)).trans (Chg.of_grownRow hg) (fun k e => .inr ?_)⟩
  simp [Value.ownBlock] at e
  omega

set_option maxRecDepth 100000 in
set_option maxHeartbeats 1000000 in
theorem plans_walk (t n : Int) (l : List Sp) (a : Option Addr) (cap b off : Nat) (w : World) (ht : (Lit.int .i64 t).wf = true) (hn : (Lit.int .i64 n).wf = true) (hs : SpansAt w b off l) (ha : l = [] ∨ a = some ⟨b, off, none⟩) (_ : ∀ s ∈ l, s.I64) :
    Calls Try.prog 5 #[.int .i64 t, .int .i64 n, .slice a l.length cap] w (TPost w) := by
  obtain ⟨j0, hj0, hy0, hy1, hy2⟩ := info_parts info32
  have HJ0 := Lib.hid hj0; have HY0 := Lib.hid hy0; have HY1 := Lib.hid hy1; have HY2 := Lib.hid hy2
  have HS := Lib.hid hs; have HA := Lib.hid ha
  have HT := Lib.hid (i64_of ht); have HN := Lib.hid (i64_of hn)
  clear hs ha hj0 hy0 hy1 hy2 ht hn
  by_cases hf : l.length ≤ 40
  · have d40 : decide (l.length ≤ 40 ∧ 0 ≤ 40 ∧ 0 ≤ 40) = true := by rw [decide_eq_true_eq]; omega
    go_enter Try.func5, Try.ntmps5
    go_wp2_with fail
    refine (few_any a none none l.length 0 0 cap 0 0 w).mono ?_
    rw [d40]
    rintro e w' ⟨rfl, rfl⟩
    have HEM := Lib.hid (show Blk (w'.alloc (.cells #[] 32)) w'.heap.size 32 [] from Blk.new w' #[] 32)
    have HSRC : Hid (l.length = 0 ∨ ∃ a', a = some a' ∧ ∀ j u, (l.flatMap spCells)[j]? = some u → (w'.alloc (.cells #[] 32)).cell? (a'.add j) = some u) := Lib.hid (by
      by_cases hl : l = []
      · exact .inl (by rw [hl]; rfl)
      · refine .inr ⟨_, HA.out.resolve_left hl, fun j u hu => ?_⟩
        rw [add_plain]
        exact spans_cell2 (HS.out.chg ((Chg.refl (fun _ => False) w').alloc _) (fun x => x)) hu)
    have HONE : Hid (∀ u ∈ l.flatMap spCells, u.oneCell' = true) := Lib.hid (fun u hu => by
      obtain ⟨s, _, hu⟩ := List.mem_flatMap.1 hu
      simp [spCells] at hu
      rcases hu with rfl | rfl | rfl | rfl <;> rfl)
    go_wp2_with (at_builtin; refine wpList_append_all rfl (.tmp 19) (.tmp 20) 22 rfl w'.heap.size 32 j0 _ 4 32 Try.underlying22 HJ0.out HY0.out HY1.out HY2.out rfl (by decide) _ 0 [] rfl (owns_empty (g := w'.heap.size) HEM.out (Nat.le_refl _)) a l.length cap (l.flatMap spCells) rfl (spsCells_len l) HSRC.out HONE.out (by simp [maxLen]; omega) (by omega) (by simp) ?_; intro v1 w1 hown1 hgrow1 hv1; obtain ⟨ao1, g1, c1, hv, hg1, hs1, hc1⟩ := own_facts hown1 hgrow1; subst hv; have HG1 := Lib.hid hg1; have HS1 := Lib.hid hs1; have HC1 := Lib.hid hc1; clear hown1 hgrow1 hv1 hg1 hs1 hc1)
    refine (Plan_any t n l ao1 c1 w1 g1 0 HS1.out HG1.out).mono ?_
    have hpl := plan_len t n l
    obtain ⟨P, E, hPE⟩ : ∃ P E, planE t n l = (P, E) := ⟨_, _, rfl⟩
    rw [hPE] at hpl ⊢
    rintro e W2 ⟨ao2, c2, g2, rfl, hg2, hI2, hc2⟩
    have HC2 := Lib.hid (HC1.out.trans hc2 (fun _ x => x.elim)); have HS2 := Lib.hid (HS1.out.chg hc2 (fun x => x))
    have HG2 := Lib.hid hg2; have HI2 := Lib.hid hI2
    have hr := rPlan_any t n l a cap W2 b off (HS.out.chg HC2.out (fun x => x)) HA.out
    rw [hPE] at hr
    have HR := Lib.hid hr; have HPL := Lib.hid hpl
    clear hr hpl hPE hg2 hI2 hc2
    go_wp2_with fail
    refine HR.out.mono ?_
    rintro e W3 ⟨ao3, c3, g3, rfl, hg3, hI3, hc3⟩
    have HC3 := Lib.hid (HC2.out.trans hc3 (fun _ x => x.elim)); have HS3 := Lib.hid (HS2.out.chg hc3 (fun x => x))
    have HG3 := Lib.hid hg3; have HI3 := Lib.hid hI3; have HI2' := Lib.hid (HI2.out.chg hc3 (fun x => x))
    clear hg3 hI3 hc3
    go_wp2_with fail
    refine (same_any P P ao2 ao3 g2 0 g3 0 c2 c3 W3 HI2'.out HI3.out HG2.out HG3.out HPL.out HPL.out).mono ?_
    rintro e W4 ⟨rfl, x, rfl⟩
    have dpp : decide (P = P) = true := by simp
    rw [dpp]
    clear dpp
    have HC4 := Lib.hid (HC3.out.grow x); have HS4 := Lib.hid (HS3.out.chg (grow_chg W3 x) (fun x => x))
    generalize W3.grow x = W4 at HC4 HS4 ⊢
    go_wp2_with fail
    go_loopg [12] l.length (fun gm iv wr => ∃ i : Nat, i ≤ l.length ∧ gm = l.length - i ∧ iv = .int .i64 i ∧ Chg (fun _ => False) W4 wr)
    case atStart => exact ⟨0, by omega, by omega, rfl, Chg.refl _ W4⟩
    case round =>
      obtain ⟨i, hi, rfl, rfl, hcg⟩ := hrel
      have HCG := Lib.hid hcg
      clear hcg
      by_cases hlt : i < l.length
      · have hne : a = some ⟨b, off, none⟩ := HA.out.resolve_left (by intro h; simp [h] at hlt)
        have hne1 : ao1 = some ⟨g1, 0, none⟩ := HG1.out.resolve_left (by intro h; simp [h] at hlt)
        subst hne
        subst hne1
        obtain ⟨c0, c1, c2, c3⟩ := HS.out.chg (HC4.out.trans HCG.out (fun _ x => x.elim)) (fun x => x) i hlt
        obtain ⟨p0, p1, p2, p3⟩ := HS4.out.chg HCG.out (fun x => x) i hlt
        rw [Nat.zero_add] at p0 p1 p2 p3
        obtain ⟨sp, hsp⟩ : ∃ s, l[i] = s := ⟨_, rfl⟩
        rw [hsp] at c0 c1 c2 c3 p0 p1 p2 p3
        clear hsp
        go_wp2_with fail
        go_quiet (fail)
        go_wp2_with fail
        go_roundg (l.length - (i + 1))
        case measure => omega
        case rel => exact ⟨i + 1, by omega, rfl, by go_num, HCG.out.drewN nq⟩
      · obtain rfl : i = l.length := by omega
        have HCL := Lib.hid (HC4.out.trans HCG.out (fun _ x => x.elim))
        go_wp2_with fail
        refine (spans_any t n l a cap wr b off (HS.out.chg HCL.out (fun x => x)) HA.out).mono ?_
        rintro e W4b ⟨rfl, x, rfl⟩
        have HC4b := Lib.hid (HCL.out.grow x)
        clear HCL HCG
        generalize wr.grow x = W4b at HC4b ⊢
        by_cases h0 : spansE t n l = 0
        · have H0 := Lib.hid h0
          rw [h0]
          clear h0
          go_wp2_with fail
          refine (mild_any t n W4b HT.out HN.out).mono ?_
          rintro e w'' ⟨bm, rfl, rfl, hm⟩
          have HM := Lib.hid hm
          clear hm
          obtain ⟨W5, rfl⟩ : ∃ W : World, W = w'' := ⟨_, rfl⟩
          cases bm with
          | false =>
            have HCX := HC4b
            go_wp2_with fail
            refine (alive_any _).mono ?_
            rintro e w9 ⟨rfl, hc9⟩
            have HC9 := Lib.hid (HCX.out.trans hc9 (fun _ x => x.elim))
            clear hc9
            go_wp2_with fail
            go_ret
            exact ⟨rfl, HC9.out⟩
          | true =>
            have HC5 := HC4b
            have HFEW : Hid (spansE t n l = 0 → (plans t.toNat n.toNat l).length ≤ 10000) := Lib.hid (fun h => by
              have hv := valid_of h
              have t1 := hv.t1; have t2 := hv.t2; have n1 := hv.n1; have n2 := hv.n2
              exact Nat.le_trans (plans_len (by omega) (by omega)) (HM.out rfl t.toNat n.toNat (by omega) (by omega) (by omega) (by omega) (by omega) (by omega)))
            have hf := HFEW.out
            obtain ⟨K, E2, hKE⟩ : ∃ K E, plansE t n l = (K, E) := ⟨_, _, rfl⟩
            have hP1 := Plans_any t n l a cap W5 b off (HS.out.chg HC5.out (fun x => x)) HA.out
            rw [hKE] at hP1
            have HP1 := Lib.hid hP1
            have HP2 : Hid (∀ W : World, Chg (fun _ => False) w' W → Calls Try.prog 25 #[.int .i64 t, .int .i64 n, .slice a l.length cap] W (CountPost (K, E2) W)) := Lib.hid (fun W hc => by
              have := rPlans_any t n l a cap W b off (HS.out.chg hc (fun x => x)) HA.out hf
              rwa [hKE] at this)
            obtain ⟨S, Z, E3, hSE⟩ : ∃ S Z E, shortE t n l = (S, Z, E) := ⟨_, _, _, rfl⟩
            have HQ1 : Hid (∀ W : World, Chg (fun _ => False) w' W → Calls Try.prog 26 #[.int .i64 t, .int .i64 n, .slice a l.length cap] W (LPost3 (S, Z, E3) W)) := Lib.hid (fun W hc => by
              have := Shortest_any t n l a cap W b off (HS.out.chg hc (fun x => x)) HA.out
              rwa [hSE] at this)
            have HQ2 : Hid (∀ W : World, Chg (fun _ => False) w' W → Calls Try.prog 27 #[.int .i64 t, .int .i64 n, .slice a l.length cap] W (LPost3 (S, Z, E3) W)) := Lib.hid (fun W hc => by
              have := rShortest_any t n l a cap W b off (HS.out.chg hc (fun x => x)) HA.out hf
              rwa [hSE] at this)
            have HSL : Hid (S.length ≤ 1000) := Lib.hid (by have := short_len t n l hf; rwa [hSE] at this)
            clear hP1 hKE hSE hf
            go_wp2_with fail
            refine HP1.out.mono ?_
            rintro e W6 ⟨rfl, hc6⟩
            have HC6 := Lib.hid (HC5.out.trans hc6 (fun _ x => x.elim))
            clear hc6
            go_wp2_with fail
            refine (HP2.out W6 HC6.out).mono ?_
            rintro e W7 ⟨rfl, hc7⟩
            have HC7 := Lib.hid (HC6.out.trans hc7 (fun _ x => x.elim))
            clear hc7
            go_wp2_with fail
            refine (HQ1.out W7 HC7.out).mono ?_
            rintro e W8 ⟨ao8, c8, g8, rfl, hg8, hI8, hc8⟩
            have HC8 := Lib.hid (HC7.out.trans hc8 (fun _ x => x.elim))
            have HG8 := Lib.hid hg8; have HI8 := Lib.hid hI8
            clear hg8 hI8 hc8
            go_wp2_with fail
            refine (HQ2.out W8 HC8.out).mono ?_
            rintro e Wa ⟨aoa, ca, ga, rfl, hga, hIa, hca⟩
            have HCA := Lib.hid (HC8.out.trans hca (fun _ x => x.elim))
            have HGA := Lib.hid hga; have HIA := Lib.hid hIa; have HI8' := Lib.hid (HI8.out.chg hca (fun x => x))
            clear hga hIa hca
            go_wp2_with fail
            refine (same_any S S ao8 aoa g8 0 ga 0 c8 ca Wa HI8'.out HIA.out HG8.out HGA.out HSL.out HSL.out).mono ?_
            rintro e Wb ⟨rfl, x, rfl⟩
            have dss : decide (S = S) = true := by simp
            rw [dss]
            clear dss
            have HCX := Lib.hid (HCA.out.grow x)
            generalize Wa.grow x = Wb at HCX ⊢
            go_wp2_with fail
            refine (alive_any _).mono ?_
            rintro e w9 ⟨rfl, hc9⟩
            have HC9 := Lib.hid (HCX.out.trans hc9 (fun _ x => x.elim))
            clear hc9
            go_wp2_with fail
            go_ret
            exact ⟨rfl, HC9.out⟩
        · have dz : (spansE t n l == 0) = false := by simpa using h0
          have HFEW : Hid (spansE t n l = 0 → (plans t.toNat n.toNat l).length ≤ 10000) := Lib.hid (fun h => absurd h h0)
          have HC5 := HC4b
          obtain ⟨W5, rfl⟩ : ∃ W : World, W = W4b := ⟨_, rfl⟩
          clear h0
          have hf := HFEW.out
          obtain ⟨K, E2, hKE⟩ : ∃ K E, plansE t n l = (K, E) := ⟨_, _, rfl⟩
          have hP1 := Plans_any t n l a cap W5 b off (HS.out.chg HC5.out (fun x => x)) HA.out
          rw [hKE] at hP1
          have HP1 := Lib.hid hP1
          have HP2 : Hid (∀ W : World, Chg (fun _ => False) w' W → Calls Try.prog 25 #[.int .i64 t, .int .i64 n, .slice a l.length cap] W (CountPost (K, E2) W)) := Lib.hid (fun W hc => by
            have := rPlans_any t n l a cap W b off (HS.out.chg hc (fun x => x)) HA.out hf
            rwa [hKE] at this)
          obtain ⟨S, Z, E3, hSE⟩ : ∃ S Z E, shortE t n l = (S, Z, E) := ⟨_, _, _, rfl⟩
          have HQ1 : Hid (∀ W : World, Chg (fun _ => False) w' W → Calls Try.prog 26 #[.int .i64 t, .int .i64 n, .slice a l.length cap] W (LPost3 (S, Z, E3) W)) := Lib.hid (fun W hc => by
            have := Shortest_any t n l a cap W b off (HS.out.chg hc (fun x => x)) HA.out
            rwa [hSE] at this)
          have HQ2 : Hid (∀ W : World, Chg (fun _ => False) w' W → Calls Try.prog 27 #[.int .i64 t, .int .i64 n, .slice a l.length cap] W (LPost3 (S, Z, E3) W)) := Lib.hid (fun W hc => by
            have := rShortest_any t n l a cap W b off (HS.out.chg hc (fun x => x)) HA.out hf
            rwa [hSE] at this)
          have HSL : Hid (S.length ≤ 1000) := Lib.hid (by have := short_len t n l hf; rwa [hSE] at this)
          clear hP1 hKE hSE hf
          go_wp2_with fail
          refine HP1.out.mono ?_
          rintro e W6 ⟨rfl, hc6⟩
          have HC6 := Lib.hid (HC5.out.trans hc6 (fun _ x => x.elim))
          clear hc6
          go_wp2_with fail
          refine (HP2.out W6 HC6.out).mono ?_
          rintro e W7 ⟨rfl, hc7⟩
          have HC7 := Lib.hid (HC6.out.trans hc7 (fun _ x => x.elim))
          clear hc7
          go_wp2_with fail
          refine (HQ1.out W7 HC7.out).mono ?_
          rintro e W8 ⟨ao8, c8, g8, rfl, hg8, hI8, hc8⟩
          have HC8 := Lib.hid (HC7.out.trans hc8 (fun _ x => x.elim))
          have HG8 := Lib.hid hg8; have HI8 := Lib.hid hI8
          clear hg8 hI8 hc8
          go_wp2_with fail
          refine (HQ2.out W8 HC8.out).mono ?_
          rintro e Wa ⟨aoa, ca, ga, rfl, hga, hIa, hca⟩
          have HCA := Lib.hid (HC8.out.trans hca (fun _ x => x.elim))
          have HGA := Lib.hid hga; have HIA := Lib.hid hIa; have HI8' := Lib.hid (HI8.out.chg hca (fun x => x))
          clear hga hIa hca
          go_wp2_with fail
          refine (same_any S S ao8 aoa g8 0 ga 0 c8 ca Wa HI8'.out HIA.out HG8.out HGA.out HSL.out HSL.out).mono ?_
          rintro e Wb ⟨rfl, x, rfl⟩
          have dss : decide (S = S) = true := by simp
          rw [dss]
          clear dss
          have HCX := Lib.hid (HCA.out.grow x)
          generalize Wa.grow x = Wb at HCX ⊢
          go_wp2_with fail
          refine (alive_any _).mono ?_
          rintro e w9 ⟨rfl, hc9⟩
          have HC9 := Lib.hid (HCX.out.trans hc9 (fun _ x => x.elim))
          clear hc9
          go_wp2_with fail
          go_ret
          exact ⟨rfl, HC9.out⟩
  · have d40 : decide (l.length ≤ 40 ∧ 0 ≤ 40 ∧ 0 ≤ 40) = false := by rw [decide_eq_false_iff_not]; omega
    have HCX := Lib.hid (Chg.refl (fun _ => False) w)
    clear hf
    go_enter Try.func5, Try.ntmps5
    go_wp2_with fail
    refine (few_any a none none l.length 0 0 cap 0 0 w).mono ?_
    rw [d40]
    rintro e w' ⟨rfl, rfl⟩
    go_wp2_with fail
    refine (alive_any _).mono ?_
    rintro e w9 ⟨rfl, hc9⟩
    have HC9 := Lib.hid (HCX.out.trans hc9 (fun _ x => x.elim))
    clear hc9
    go_wp2_with fail
    go_ret
    exact ⟨rfl, HC9.out⟩
end Go.Proofs.Ytgamekcjjpjnnaa
