/- The walk of the statement TurnMoved: it returns true and changes nothing that was there. Its conditions are its premises. -/
import Derived.Test.YtgamekcjjpjnnaaM10
import Derived.Test.YtgamekcjjpjnnaaA33
import Derived.Test.YtgamekcjjpjnnaaL3
import Derived.Test.YtgamekcjjpjnnaaL6
set_option linter.unusedVariables false
namespace Go.Proofs.Ytgamekcjjpjnnaa
open Go.RowKit

set_option maxRecDepth 100000 in
set_option maxHeartbeats 4000000 in
theorem moved_law (t n : Int) (l : List Sp) (a : Option Addr) (cap b off : Nat) (X : List Int) (ar : Option Addr) (cr br or_ : Nat) (by_ : Int) (w : World) (_ : (Lit.int .i64 t).wf = true) (_ : (Lit.int .i64 n).wf = true)
    (hs : SpansAt w b off l) (ha : l = [] ∨ a = some ⟨b, off, none⟩) (_ : ∀ s ∈ l, s.I64) (hR : IntsAt w br or_ X) (har : X = [] ∨ ar = some ⟨br, or_, none⟩) (hI : ∀ x ∈ X, I64 x) (hby : (Lit.int .u8 by_).wf = true) :
    Calls Try.prog 10 #[.int .i64 t, .int .i64 n, .slice a l.length cap, .slice ar X.length cr, .int .u8 by_] w (TPost w) := by
  obtain ⟨i0, hi0, hz0, hz1, hz2⟩ := info_parts info3
  have HI0 := Lib.hid hi0; have HZ0 := Lib.hid hz0; have HZ1 := Lib.hid hz1; have HZ2 := Lib.hid hz2
  obtain ⟨hb0, hb1⟩ := u8_of hby
  have HS := Lib.hid hs; have HA := Lib.hid ha; have HR := Lib.hid hR; have HAR := Lib.hid har
  clear hs ha hR har hI hby hi0 hz0 hz1 hz2
  by_cases hf : l.length ≤ 40 ∧ X.length ≤ 40
  · have d40 : decide (l.length ≤ 40 ∧ X.length ≤ 40 ∧ 0 ≤ 40) = true := by rw [decide_eq_true_eq]; omega
    have hl : X.length ≤ 1000 := by omega
    clear hf
    go_enter Try.func10, Try.ntmps10
    go_wp2_with fail
    refine (few_any a ar none l.length X.length 0 cap cr 0 w).mono ?_
    rw [d40]
    rintro e w' ⟨rfl, rfl⟩
    go_wp2_with fail
    refine (Slack_any t n l a cap b off X ar cr br or_ w' HS.out HA.out HR.out HAR.out hl).mono ?_
    by_cases hgood : spansE t n l = 0 ∧ inHours t n X
    · obtain ⟨h0, hH⟩ := hgood
      have hv := valid_of h0
      obtain ⟨T, rfl⟩ : ∃ T : Nat, t = T := ⟨t.toNat, by have := hv.t1; omega⟩
      obtain ⟨N, rfl⟩ : ∃ N : Nat, n = N := ⟨n.toNat, by have := hv.n1; omega⟩
      rw [slackE_ok h0 hH]
      have ht1 := hv.t1; have ht2 := hv.t2; have hn1 := hv.n1; have hn2 := hv.n2; have hl20 := hv.len
      have hXN := hH.1
      have hXl : 0 < X.length := by omega
      have hne : ar = some ⟨br, or_, none⟩ := HAR.out.resolve_left (by intro h; rw [h] at hXl; simp at hXl)
      subst hne
      obtain ⟨L, hL⟩ : ∃ L, (l.map fun s => slackV T s X) = L := ⟨_, rfl⟩
      have hLl : L.length = l.length := by rw [← hL]; simp
      obtain ⟨x0, hx0⟩ : ∃ x0, hr X 0 = x0 := ⟨_, rfl⟩
      have hx0b := inHours_hr hH hXl
      rw [hx0] at hx0b
      have HML := Lib.hid (show (l.map fun s => slackV T s (moveX T by_ X)) = L by rw [moveX_slacks hv hH]; exact hL)
      have HMI := Lib.hid (moveX_in (c := by_) ht1 hH)
      have HPL := Lib.hid (by have := moveX_plan hv hH; rw [hx0] at this; exact this)
      rw [hL]
      have H0 := Lib.hid h0; have HV := Lib.hid hv; have HH := Lib.hid hH; have HLL := Lib.hid hL; have HX0 := Lib.hid hx0; have HXN := Lib.hid hXN; have HLN := Lib.hid hLl
      clear h0 hv hH hL hx0 hXN hLl
      rintro e w1 ⟨ao, c, g, rfl, hg, hI, hc1⟩
      have HG := Lib.hid hg; have HI1 := Lib.hid hI; have HC1 := Lib.hid hc1
      clear hg hI hc1
      go_wp2_with fail
      refine (spans_any T N l a cap w1 b off (HS.out.chg HC1.out (fun x => x)) HA.out).mono ?_
      rw [H0.out]
      rintro e w2 ⟨rfl, x, rfl⟩
      have HC2 := Lib.hid (HC1.out.grow x); have HI2 := Lib.hid (HI1.out.chg (grow_chg w1 x) (fun x => x))
      generalize w1.grow x = w2 at HC2 HI2 ⊢
      go_wp2_with fail
      refine (Hours_any T N X (some ⟨br, or_, none⟩) cr br or_ w2 (HR.out.chg HC2.out (fun x => x)) (.inr rfl) hl).mono ?_
      rintro e w3 ⟨bh, rfl, hbh, hc3⟩
      obtain rfl : bh = true := hbh.2 HH.out
      have HC3 := Lib.hid (HC2.out.trans hc3 (fun _ x => x.elim)); have HI3 := Lib.hid (HI2.out.chg hc3 (fun x => x))
      have dll : ((L.length : Int) != (l.length : Int)) = false := by rw [bne_eq_false_iff_eq, HLN.out]
      clear hbh hc3
      go_wp2_with fail
      go_loopg [13, 14, 15] X.length (fun g mv fv iv wr => ∃ i : Nat, i ≤ X.length ∧ g = X.length - i ∧ iv = .int .i64 i ∧ wr.ownsRow w3.heap.size 3 1 mv i (((moveX T by_ X).take i).map (Value.int .i64)) ∧ wr.ownsRow w3.heap.size 3 1 fv i (((moveX T (T - x0) X).take i).map (Value.int .i64)) ∧ Ap2 mv fv ∧ Chg (fun _ => False) w3 wr)
      case atStart => exact ⟨0, by omega, by omega, rfl, World.ownsRow_nil _ _ _ _, World.ownsRow_nil _ _ _ _, Ap2.nil, Chg.refl _ w3⟩
      case round =>
        obtain ⟨i, hi, rfl, rfl, hom, hof, hap, hcg⟩ := hrel
        have HOM := Lib.hid hom; have HOF := Lib.hid hof; have HAP := Lib.hid hap; have HCG := Lib.hid hcg
        clear hom hof hap hcg
        by_cases hlt : i < X.length
        · have hRw := HR.out.chg (HC3.out.trans HCG.out (fun _ x => x.elim)) (fun x => x)
          have gk := hRw i hlt
          have g0 := hRw 0 hXl
          rw [hr_get] at gk g0
          rw [HX0.out, Nat.add_zero] at g0
          have hxb := inHours_hr HH.out hlt
          obtain ⟨x, hx⟩ : ∃ x, hr X i = x := ⟨_, rfl⟩
          rw [hx] at gk hxb
          have HT1 := Lib.hid (show (moveX T by_ X).take (i + 1) = (moveX T by_ X).take i ++ [(x + by_) % T] by
            rw [List.take_succ_eq_append_getElem (by simpa [moveX] using hlt), hr_get, moveX_hr hlt, hx])
          have HT2 := Lib.hid (show (moveX T (T - x0) X).take (i + 1) = (moveX T (T - x0) X).take i ++ [(x - x0 + T) % T] by
            rw [List.take_succ_eq_append_getElem (by simpa [moveX] using hlt), hr_get, moveX_hr hlt, hx, show x + (T - x0) = x - x0 + T by omega])
          have HXI := Lib.hid hx
          clear hx hRw
          have hbr : br < wr.heap.size := World.cell_lt gk
          have hsz5 : w3.heap.size ≤ wr.heap.size := HCG.out.size
          have HNEW : Hid (∀ j u, [Value.int .i64 ((x + by_) % (T : Int))][j]? = some u → (wr.alloc (Obj.cells #[.int .i64 ((x + by_) % (T : Int))] 3)).cell? ((⟨wr.heap.size, 0, none⟩ : Addr).add j) = some u) := Lib.hid (fun j u hu => by
            rw [add_plain, Nat.zero_add]
            exact (Blk.new wr #[.int .i64 ((x + by_) % (T : Int))] 3).cell_some hu)
          have hml : (i + 1) * 8 ≤ 140737488355328 := by omega
          have hmm : i + 1 ≤ maxLen := by simp [maxLen]; omega
          go_wp2_with (at_builtin; refine wpList_append_two rfl (.tmp 70) (.tmp 80) 25 rfl w3.heap.size 3 i0 (.int .i64 0) 1 8 Try.underlying25 HI0.out HZ0.out HZ1.out HZ2.out rfl (by decide) _ i (((moveX T by_ X).take i).map (Value.int .i64)) rfl (HOM.out.alloc _) ⟨wr.heap.size, 0, none⟩ 1 1 [.int .i64 ((x + by_) % (T : Int))] rfl rfl HNEW.out (by intro u hu; simp at hu; subst hu; rfl) hmm hml (by simp; omega) ?_; intro v1 w5 hown1 hgrow1 hwhere1; have HOWN1 := Lib.hid hown1; have HGROW1 := Lib.hid hgrow1; have HWH1 := Lib.hid hwhere1; clear hown1 hgrow1 hwhere1)
          have hc5 : Chg (fun _ => False) w3 w5 := (HCG.out.alloc _).trans (Chg.of_grownRow HGROW1.out) (fun kk hk => .inr ((HOM.out.lt kk hk.symm).1))
          have hof5 := HAP.out.kept (HOF.out.alloc _) HGROW1.out
          have hap5 := HAP.out.next (HOF.out.alloc _) HWH1.out
          have HC5 := Lib.hid hc5; have HAP5 := Lib.hid hap5
          have HOF5 : Hid (∀ o, (w5.alloc o).drew.ownsRow w3.heap.size 3 1 _ i (((moveX T (T - x0) X).take i).map (Value.int .i64))) := Lib.hid (fun o => hof5.alloc o)
          clear gk g0 hc5 hof5 hap5
          have hRw := HR.out.chg (HC3.out.trans HC5.out (fun _ x => x.elim)) (fun x => x)
          have gk := hRw i hlt
          have g0 := hRw 0 hXl
          rw [hr_get] at gk g0
          rw [HX0.out, Nat.add_zero] at g0
          rw [HXI.out] at gk
          have hbr5 : br < w5.heap.size := World.cell_lt gk
          have hsz6 : w3.heap.size ≤ w5.heap.size := HC5.out.size
          obtain ⟨y, hy⟩ : ∃ y : Int, (x - x0 + T) % (T : Int) = y := ⟨_, rfl⟩
          have hw1 : IntKind.i64.wrap (x - x0) = x - x0 := by rw [IntKind.wrap_i64]; omega
          have hw2 : IntKind.i64.wrap (x - x0 + T) = x - x0 + T := by rw [IntKind.wrap_i64]; omega
          have hw3 : (x - x0 + T).tmod T = y := by rw [← hy, Int.tmod_eq_emod_of_nonneg (by omega)]
          have hTz : ¬ T = 0 := by omega
          have hyb : 0 ≤ y ∧ y < T := by rw [← hy]; exact ⟨Int.emod_nonneg _ (by omega), Int.emod_lt_of_pos _ (by omega)⟩
          have HY := Lib.hid hy
          have HNEW2 : Hid (∀ j u, [Value.int .i64 y][j]? = some u → (w5.alloc (Obj.cells #[.int .i64 y] 3)).drew.cell? ((⟨w5.heap.size, 0, none⟩ : Addr).add j) = some u) := Lib.hid (fun j u hu => by
            rw [add_plain, Nat.zero_add]
            exact (Blk.new w5 #[.int .i64 y] 3).drew.cell_some hu)
          clear hRw hy HNEW
          go_region_law (refine step_append_two rfl (.tmp 82) (.tmp 95) 25 rfl w3.heap.size 3 i0 (.int .i64 0) 1 8 Try.underlying25 HI0.out HZ0.out HZ1.out HZ2.out rfl (by decide) _ i (((moveX T (T - x0) X).take i).map (Value.int .i64)) (by first | (simp [Act.eval]; done) | (simp [Act.eval]; rfl)) (HOF5.out _) ⟨w5.heap.size, 0, none⟩ 1 1 [.int .i64 y] (by simp [Act.eval]) rfl HNEW2.out (by intro u hu; simp at hu; subst hu; rfl) hmm hml (by simp; omega) ?_; intro v2 w6 hown2 hgrow2 hwhere2)
          all_goals
            have HOWN2 := Lib.hid hown2; have HGROW2 := Lib.hid hgrow2; have HWH2 := Lib.hid hwhere2
            clear hown2 hgrow2 hwhere2 hw1 hw2 hw3 gk g0
            go_wp2_with fail
            go_roundg (X.length - (i + 1))
            case measure => omega
            case rel =>
              have ho1 : (w5.alloc (Obj.cells #[Value.int IntKind.i64 y] 3)).drew.ownsRow w3.heap.size 3 1 v1 (i + 1) _ := HOWN1.out.alloc (Obj.cells #[Value.int IntKind.i64 y] 3)
              refine ⟨i + 1, by omega, rfl, by go_num, ?_, ?_, (HAP5.out.symm.next ho1 HWH2.out).symm, ?_⟩
              · rw [HT1.out, List.map_append]; exact HAP5.out.symm.kept ho1 HGROW2.out
              · rw [HT2.out, List.map_append, HY.out]; exact HOWN2.out
              · exact ((HC5.out.alloc _).drew).trans (Chg.of_grownRow HGROW2.out) (fun kk hk => .inr (((HOF5.out (Obj.cells #[Value.int IntKind.i64 y] 3)).lt kk hk.symm).1))
        · obtain rfl : i = X.length := by omega
          have hom := HOM.out
          have hof := HOF.out
          rw [show (moveX T by_ X).take X.length = moveX T by_ X from List.take_of_length_le (by simp [moveX])] at hom
          rw [show (moveX T (T - x0) X).take X.length = moveX T (T - x0) X from List.take_of_length_le (by simp [moveX])] at hof
          obtain ⟨Y, hY⟩ : ∃ Y, moveX T by_ X = Y := ⟨_, rfl⟩
          obtain ⟨Z, hZ⟩ : ∃ Z, moveX T (T - x0) X = Z := ⟨_, rfl⟩
          have hYl : Y.length = X.length := by rw [← hY]; simp [moveX]
          have hZl : Z.length = X.length := by rw [← hZ]; simp [moveX]
          rw [hY] at hom HMI HML
          rw [hZ] at hof HPL
          obtain ⟨am, gm, cm, rfl, hm1, hm2, _⟩ := owns_list hom
          obtain ⟨af, gf, cf, rfl, hf1, hf2, _⟩ := owns_list hof
          have HM1 := Lib.hid hm1; have HM2 := Lib.hid hm2; have HF1 := Lib.hid hf1; have HF2 := Lib.hid hf2
          have HC6 := Lib.hid (HC3.out.trans HCG.out (fun _ x => x.elim)); have HI6 := Lib.hid (HI3.out.chg HCG.out (fun x => x))
          have hY1000 : Y.length ≤ 1000 := by omega
          have hZ1000 : Z.length ≤ 1000 := by omega
          clear hom hof hY hZ hm1 hm2 hf1 hf2 hlt hYl hZl
          go_wp2_with fail
          refine (Slack_any T N l a cap b off Y am cm gm 0 wr (HS.out.chg HC6.out (fun x => x)) HA.out HM2.out HM1.out hY1000).mono ?_
          rw [slackE_ok H0.out HMI.out, HML.out]
          rintro e w7 ⟨ao2, c2, g2, rfl, hg2, hI2, hc7⟩
          have HG2 := Lib.hid hg2; have HI2' := Lib.hid hI2; have HC7 := Lib.hid (HC6.out.trans hc7 (fun _ x => x.elim)); have HI7 := Lib.hid (HI6.out.chg hc7 (fun x => x)); have HF7 := Lib.hid (HF2.out.chg hc7 (fun x => x))
          clear hg2 hI2 hc7
          go_wp2_with fail
          refine (Is_any T N l a cap b off Z af cf gf 0 w7 (HS.out.chg HC7.out (fun x => x)) HA.out HF7.out HF1.out hZ1000).mono ?_
          rintro e w8 ⟨rfl, hc8⟩
          obtain ⟨bi, hbi⟩ : ∃ bi, decide (spansE (T : Int) (N : Int) l = 0 ∧ planP (T : Int) (N : Int) l Z) = bi := ⟨_, rfl⟩
          rw [hbi, H0.out]
          have HBI := Lib.hid (show bi = true ↔ ∀ s ∈ l, slackV T s X ≤ s.hi - s.lo by rw [← hbi, decide_eq_true_eq, ← HPL.out]; exact ⟨fun h => h.2, fun h => ⟨H0.out, h⟩⟩)
          have HC8 := Lib.hid (HC7.out.trans hc8 (fun _ x => x.elim)); have HI8 := Lib.hid (HI7.out.chg hc8 (fun x => x)); have HJ8 := Lib.hid (HI2'.out.chg hc8 (fun x => x))
          have HPZ := Lib.hid (show bi = true → planP (T : Int) (N : Int) l Z from fun h => by rw [← hbi, decide_eq_true_eq] at h; exact h.2)
          have hLn : L.length ≤ 1000 := by have := HLN.out; omega
          clear hbi hc8
          go_wp2_with fail
          refine (same_any L L ao ao2 g 0 g2 0 c c2 w8 HI8.out HJ8.out HG.out HG2.out hLn hLn).mono ?_
          rintro e w9 ⟨rfl, x9, rfl⟩
          rw [show decide (L = L) = true by simp]
          have HC9' := Lib.hid (HC8.out.grow x9); have HI9 := Lib.hid (HI8.out.chg (grow_chg w8 x9) (fun x => x))
          generalize w8.grow x9 = w9 at HC9' HI9 ⊢
          go_wp2_with fail
          go_loopg [20, 21] l.length (fun g kv iv wr => ∃ (k : Nat) (kb : Bool), k ≤ l.length ∧ g = l.length - k ∧ iv = .int .i64 k ∧ kv = .bool kb ∧ (kb = true ↔ ∀ j (h : j < l.length), j < k → slackV T l[j] X ≤ l[j].hi - l[j].lo) ∧ Chg (fun _ => False) w9 wr)
          case atStart => exact ⟨0, true, by omega, by omega, rfl, rfl, ⟨fun _ j h hj => by omega, fun _ => rfl⟩, Chg.refl _ w9⟩
          case round =>
            obtain ⟨k, kb, hk, rfl, rfl, rfl, hkb, hcg⟩ := hrel
            have HKB := Lib.hid hkb; have HCK := Lib.hid hcg
            clear hkb hcg
            by_cases hkl : k < l.length
            · have hne : a = some ⟨b, off, none⟩ := HA.out.resolve_left (by intro h; simp [h] at hkl)
              subst hne
              obtain ⟨c0, c1, c2, c3⟩ := HS.out.chg (HC9'.out.trans HCK.out (fun _ x => x.elim)) (fun x => x) k hkl
              have hkL : k < L.length := by have := HLN.out; omega
              have hne4 : ao = some ⟨g, 0, none⟩ := HG.out.resolve_left (by intro h; rw [h] at hkL; simp at hkL)
              subst hne4
              have gl := HI9.out.chg HCK.out (fun x => x) k hkL
              obtain ⟨s, hs⟩ : ∃ s, l[k] = s := ⟨_, rfl⟩
              have eL : L[k] = slackV T s X := by rw [← hs]; simp [← HLL.out]
              rw [eL, Nat.zero_add] at gl
              have hok := HV.out.ok _ (List.getElem_mem hkl)
              rw [hs] at c0 c1 c2 c3 hok
              have HSS := Lib.hid hs
              obtain ⟨q, hq⟩ : ∃ q, slackV T s X = q := ⟨_, rfl⟩
              rw [hq] at gl
              have HQ := Lib.hid hq
              clear hs hq eL
              have HST : Hid (∀ kb' : Bool, kb' = (kb && decide (q ≤ s.hi - s.lo)) → (kb' = true ↔ ∀ j (h : j < l.length), j < k + 1 → slackV T l[j] X ≤ l[j].hi - l[j].lo)) := Lib.hid (fun kb' h => by
                subst h
                rw [Bool.and_eq_true, HKB.out, decide_eq_true_eq]
                constructor
                · rintro ⟨h1, h2⟩ j hj hjk
                  rcases Nat.lt_succ_iff_lt_or_eq.1 hjk with h' | rfl
                  · exact h1 j hj h'
                  · rw [HSS.out, HQ.out]; exact h2
                · intro h
                  exact ⟨fun j hj hjk => h j hj (by omega), by have := h k hkl (by omega); rw [HSS.out, HQ.out] at this; exact this⟩)
              clear HKB
              cases kb with
              | false =>
                go_wp2_with fail
                go_quiet (fail)
                have HCD := Lib.hid (HCK.out.drewN nq)
                clear c0 c1 c2 c3 gl
                go_wp2_with fail
                go_roundg (l.length - (k + 1))
                case measure => omega
                case rel => exact ⟨k + 1, false, by omega, rfl, by go_num, rfl, HST.out false (by simp), HCD.out⟩
              | true =>
                obtain ⟨dq, hdq⟩ : ∃ dq, decide (q ≤ s.hi - s.lo) = dq := ⟨_, rfl⟩
                have HDQ := Lib.hid hdq
                go_wp2_with fail
                go_quiet (fail)
                have HCD := Lib.hid (HCK.out.drewN nq)
                clear c0 c1 c2 c3 gl hdq
                go_wp2_with fail
                go_roundg (l.length - (k + 1))
                case measure => omega
                case rel => exact ⟨k + 1, dq, by omega, rfl, by go_num, by rw [← HDQ.out], HST.out dq (by rw [HDQ.out]; simp), HCD.out⟩
            · obtain rfl : k = l.length := by omega
              have hkb : kb = bi := by
                rw [Bool.eq_iff_iff, HKB.out, HBI.out]
                constructor
                · intro h s hs
                  obtain ⟨j, hj, rfl⟩ := List.getElem_of_mem hs
                  exact h j hj hj
                · intro h j hj _
                  exact h _ (List.getElem_mem hj)
              subst hkb
              have HCW := Lib.hid (HC9'.out.trans HCK.out (fun _ x => x.elim))
              clear hkl
              go_wp2_with fail
              refine (Plan_any T N l a cap wr b off (HS.out.chg HCW.out (fun x => x)) HA.out).mono ?_
              have HPS := Lib.hid (fun h : kb = true => plan_some H0.out (HPZ.out h))
              obtain ⟨P1, P2, hP⟩ : ∃ P1 P2, planE (T : Int) (N : Int) l = (P1, P2) := ⟨_, _, rfl⟩
              rw [hP] at HPS ⊢
              rintro e w10 ⟨ap, cp, gp, rfl, _, _, hc10⟩
              have HCX := Lib.hid (HCW.out.trans hc10 (fun _ x => x.elim))
              clear hP hc10
              cases kb with
              | false =>
                go_wp2_with fail
                refine (alive_any _).mono ?_
                rintro e w9 ⟨rfl, hc9⟩
                have HC9 := Lib.hid (HCX.out.trans hc9 (fun _ x => x.elim))
                clear hc9
                go_wp2_with fail
                go_ret
                exact ⟨rfl, HC9.out⟩
              | true =>
                have hp0 := HPS.out rfl
                obtain rfl : P2 = 0 := hp0
                try clear hp0
                go_wp2_with fail
                refine (alive_any _).mono ?_
                rintro e w9 ⟨rfl, hc9⟩
                have HC9 := Lib.hid (HCX.out.trans hc9 (fun _ x => x.elim))
                clear hc9
                go_wp2_with fail
                go_ret
                exact ⟨rfl, HC9.out⟩
    · obtain ⟨E, hE0, hE⟩ : ∃ E, E ≠ 0 ∧ slackE t n l X = ([], E) := by
        by_cases h0 : spansE t n l = 0
        · exact ⟨2, by omega, slackE_bad h0 (fun h => hgood ⟨h0, h⟩)⟩
        · exact ⟨_, h0, slackE_err h0⟩
      rw [hE]
      rintro e w1 ⟨ao, c, g, rfl, _, _, hc1⟩
      have HCX := Lib.hid hc1
      have hq : (E != 0) = true := by simpa using hE0
      clear hE hE0 hc1 hgood
      go_wp2_with fail
      refine (alive_any _).mono ?_
      rintro e w9 ⟨rfl, hc9⟩
      have HC9 := Lib.hid (HCX.out.trans hc9 (fun _ x => x.elim))
      clear hc9
      go_wp2_with fail
      go_ret
      exact ⟨rfl, HC9.out⟩
  · have d40 : decide (l.length ≤ 40 ∧ X.length ≤ 40 ∧ 0 ≤ 40) = false := by rw [decide_eq_false_iff_not]; omega
    clear hf
    go_enter Try.func10, Try.ntmps10
    go_wp2_with fail
    refine (few_any a ar none l.length X.length 0 cap cr 0 w).mono ?_
    rw [d40]
    rintro e w' ⟨rfl, rfl⟩
    have HCX := Lib.hid (Chg.refl (fun _ => False) w')
    go_wp2_with fail
    refine (alive_any _).mono ?_
    rintro e w9 ⟨rfl, hc9⟩
    have HC9 := Lib.hid (HCX.out.trans hc9 (fun _ x => x.elim))
    clear hc9
    go_wp2_with fail
    go_ret
    exact ⟨rfl, HC9.out⟩
end Go.Proofs.Ytgamekcjjpjnnaa
