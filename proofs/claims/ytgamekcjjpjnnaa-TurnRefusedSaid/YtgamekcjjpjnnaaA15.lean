/- turn.Ring's recursive closure, walked: the first step, and the whole search. Its conditions are its premises. -/
import Derived.Test.YtgamekcjjpjnnaaA14
set_option linter.unusedVariables false
namespace Go.Proofs.Ytgamekcjjpjnnaa
open Go.RowKit

theorem ring_any (T N : Nat) (l : List Sp) (hv : Valid T N l) (bl bf bp bs bo p b off L : Nat) (a : Option Addr) (cap : Nat) (ha : l = [] ∨ a = some ⟨b, off, none⟩) (hL : L ≤ N) (hL2 : 2 ≤ L)
    (h2 : bl ≠ bf) (h3 : bp ≠ bf) (h4 : bs ≠ bf) (h5 : bo ≠ bf) (h6 : p ≠ bf) (h7 : b ≠ bf) : ∀ (m : Nat) (R : List Int) (br cr : Nat) (w : World),
    RLook w bl bf bp bs bo p b off L T N a cap l → R.length + m = L → 1 ≤ R.length → IntsAt w br 0 R → R.length ≤ cr → br ≠ bf → Chain l R R.length →
    Calls Try.prog 44 #[.slice (some ⟨br, 0, none⟩) R.length cr, .int .i64 (kSp l (hr R 0)).src, .int .i64 (kSp l (hr R (R.length - 1))).dst, .int .i64 (seenN l R R.length : Nat), .int .i64 (sumLo l R R.length), .int .i64 (sumHi l R R.length),
      .pointer (some ⟨bl, 0, none⟩), .pointer (some ⟨bf, 0, none⟩), .pointer (some ⟨bp, 0, none⟩), .pointer (some ⟨bs, 0, none⟩), .pointer (some ⟨bo, 0, none⟩)] w (RPost (ringSearch T l m R) bf w) := by
  intro m
  induction m with
  | zero =>
    intro R br cr w hK hm h1 hR hcr hbr hch
    obtain rfl : L = R.length := by omega
    exact ring_leaf T N l hv bl bf bp bs bo p b off a cap R br cr _ w hK hL2 hR hbr hch h6 h3
  | succ m ih =>
    intro R br cr w hK hm h1 hR hcr hbr hch
    refine ring_step T N l hv bl bf bp bs bo p b off L a cap ha hL m R br cr w hK hm h1 hR hcr hbr hch h2 h3 h4 h5 h6 h7 ?_
    intro k g c w' hok hK' hR' hg hc
    have h := ih (R ++ [k]) g c w' hK' (by simp; omega) (by simp) hR' (by simpa using hc) hg (hch.snoc hok)
    rw [seenN_snoc, sumLo_snoc, sumHi_snoc, hr_old (by omega), show (R ++ [k]).length - 1 = R.length by simp, hr_last, show (R ++ [k]).length = R.length + 1 by simp] at h
    exact h

set_option maxRecDepth 100000 in
set_option maxHeartbeats 4000000 in
theorem ring_top (T N : Nat) (l : List Sp) (hv : Valid T N l) (bl bf bp bs bo p b off L : Nat) (a : Option Addr) (cap : Nat) (ha : l = [] ∨ a = some ⟨b, off, none⟩) (hL : L ≤ N) (m : Nat) (w : World)
    (hK : RLook w bl bf bp bs bo p b off L T N a cap l) (hm : m + 1 = L) (h1 : 1 ≤ m)
    (h2 : bl ≠ bf) (h3 : bp ≠ bf) (h4 : bs ≠ bf) (h5 : bo ≠ bf) (h6 : p ≠ bf) (h7 : b ≠ bf)
    (ih : ∀ (k : Int) (g c : Nat) (w' : World), stepOk l [] k → RLook w' bl bf bp bs bo p b off L T N a cap l → IntsAt w' g 0 [k] → g ≠ bf → 1 ≤ c →
      Calls Try.prog 44 #[.slice (some ⟨g, 0, none⟩) 1 c, .int .i64 (kSp l k).src, .int .i64 (kSp l k).dst, .int .i64 ((2 ^ (kSp l k).src.toNat : Nat)), .int .i64 (kSp l k).lo, .int .i64 (kSp l k).hi,
        .pointer (some ⟨bl, 0, none⟩), .pointer (some ⟨bf, 0, none⟩), .pointer (some ⟨bp, 0, none⟩), .pointer (some ⟨bs, 0, none⟩), .pointer (some ⟨bo, 0, none⟩)] w' (RPost (ringSearch T l m [k]) bf w')) :
    Calls Try.prog 44 #[.slice none 0 0, .int .i64 0, .int .i64 0, .int .i64 0, .int .i64 0, .int .i64 0,
      .pointer (some ⟨bl, 0, none⟩), .pointer (some ⟨bf, 0, none⟩), .pointer (some ⟨bp, 0, none⟩), .pointer (some ⟨bs, 0, none⟩), .pointer (some ⟨bo, 0, none⟩)] w (RPost (ringSearch T l (m + 1) []) bf w) := by
  obtain ⟨i0, hi0, hz0, hz1, hz2⟩ := info_parts info3
  have hl20 := hv.len
  have hn2 := hv.n2
  have hm6 : m + 1 ≤ 6 := by omega
  obtain ⟨r0, hr0⟩ : ∃ r0, ringSearch T l (m + 1) [] = r0 := ⟨_, rfl⟩
  rw [hr0]
  have dlen : ((0 : Int) == (L : Int)) = false := by rw [beq_eq_false_iff_ne]; omega
  have dm : decide ((0 : Int) < (L : Int) - 1) = true := by rw [decide_eq_true_eq]; omega
  have dm2 : decide ((1 : Int) < (L : Int)) = true := by rw [decide_eq_true_eq]; omega
  have HV := Lib.hid hv; have HA := Lib.hid ha; have HK := Lib.hid hK; have HI := Lib.hid ih; have HR0 := Lib.hid hr0
  have HM := Lib.hid hm; have HH := Lib.hid (show bl ≠ bf ∧ bp ≠ bf ∧ bs ≠ bf ∧ bo ≠ bf ∧ p ≠ bf ∧ b ≠ bf from ⟨h2, h3, h4, h5, h6, h7⟩)
  have HI0 := Lib.hid hi0; have HZ0 := Lib.hid hz0; have HZ1 := Lib.hid hz1; have HZ2 := Lib.hid hz2
  have c0 := hK.ll
  have c1 := hK.ss
  clear hv ha hK ih hr0 hm h2 h3 h4 h5 h6 h7 hi0 hz0 hz1 hz2
  go_enter Try.func44, Try.ntmps44
  go_wp2
  clear c0 c1
  go_loopg [1, 2, 3, 18] (2 * l.length + 1) (fun g f1 at1 sv kv wr => ∃ k : Int, -(l.length : Int) ≤ k ∧ k ≤ l.length + 1 ∧ g = (l.length + 1 - k).toNat ∧ kv = .int .i64 k ∧ (∃ x y z : Int, f1 = .int .i64 x ∧ at1 = .int .i64 y ∧ sv = .int .i64 z) ∧
    (∀ k' : Int, -(l.length : Int) ≤ k' → k' < k → cand T l m [] k' = none) ∧ Chg (fun k => k = bf) w wr ∧ ∃ v, Blk wr bf 25 [v])
  case atStart => exact ⟨-(l.length : Int), by omega, by omega, by omega, rfl, ⟨0, 0, 0, rfl, rfl, rfl⟩, fun k' h1 h2 => by omega, Chg.refl _ w, HK.out.ff⟩
  case round =>
    obtain ⟨k, hk1, hk2, rfl, rfl, ⟨f1, a1, s1, rfl, rfl, rfl⟩, hno, hcg, hbf⟩ := hrel
    have hLk := HK.out.chg hcg hbf HH.out.1 HH.out.2.1 HH.out.2.2.1 HH.out.2.2.2.1 HH.out.2.2.2.2.1 HH.out.2.2.2.2.2
    have g0 := hLk.ll
    have g1 := hLk.ss
    have HNO := Lib.hid hno; have HCG := Lib.hid hcg; have HBFW := Lib.hid hbf; have HLK := Lib.hid hLk
    clear hno hcg hbf hLk
    by_cases hkl : k ≤ l.length
    · have dk : decide (k ≤ (l.length : Int)) = true := by simpa using hkl
      by_cases hk0 : k = 0
      · have HNOT := Lib.hid (show ¬ stepOk l [] k from fun h => h.1.1 hk0)
        have dk0 : (k == 0) = true := by simpa using hk0
        clear hk0
        go_wp2_with fail
        go_roundg ((l.length : Int) + 1 - (k + 1)).toNat
        case measure => omega
        case rel => exact ⟨k + 1, by omega, by omega, rfl, by go_num, ⟨f1, a1, s1, rfl, rfl, rfl⟩, none_next HNO.out (cand_skip HNOT.out), HCG.out, HBFW.out⟩
      · have dk0 : (k == 0) = false := by simpa using hk0
        by_cases hkn : k < 0
        · have HNOT := Lib.hid (show ¬ stepOk l [] k from fun h => by have := h.2.1 rfl; omega)
          have dkn : decide (k < 0) = true := by simpa using hkn
          clear hk0 hkn
          go_wp2_with fail
          go_roundg ((l.length : Int) + 1 - (k + 1)).toNat
          case measure => omega
          case rel => exact ⟨k + 1, by omega, by omega, rfl, by go_num, ⟨f1, a1, s1, rfl, rfl, rfl⟩, none_next HNO.out (cand_skip HNOT.out), HCG.out, HBFW.out⟩
        · have dkn : decide (k < 0) = false := by simpa using hkn
          have hok : kOk l k := ⟨hk0, hk1, hkl⟩
          have hb := kSp_ok HV.out hok
          have hlt : k.natAbs - 1 < l.length := by omega
          have hnea : a = some ⟨b, off, none⟩ := HA.out.resolve_left (by intro h; simp [h] at hlt)
          subst hnea
          obtain ⟨c0, c1, c2, c3⟩ := HLK.out.spans _ hlt
          have hs0 := HV.out.ok _ (List.getElem_mem hlt)
          have ht2 := HV.out.t2
          have e : l.getD (k.natAbs - 1) default = l[k.natAbs - 1] := by rw [List.getD_eq_getElem?_getD, List.getElem?_eq_getElem hlt]; rfl
          rw [← e] at c0 c1 c2 c3 hs0
          have es := kSp_src l k
          have ed := kSp_dst l k
          have el := kSp_lo l k
          have eh := kSp_hi l k
          obtain ⟨K, hKK⟩ : ∃ K, k.natAbs - 1 = K := ⟨_, rfl⟩
          rw [hKK] at c0 c1 c2 c3 es ed el eh hlt hs0
          generalize l.getD K default = s at c0 c1 c2 c3 es ed el eh hs0
          obtain ⟨bl1, hbl⟩ : ∃ bl1, decide (0 < k) = bl1 := ⟨_, rfl⟩
          rw [hbl] at es ed el eh
          have hif : (if k < -k then -k else k) = (K : Int) + 1 := by split <;> omega
          have hmax : max k (-k) = (K : Int) + 1 := by omega
          have hwn : wrap64 (-k) = -k := by unfold wrap64; omega
          obtain ⟨F, hF⟩ : ∃ F : Nat, (kSp l k).src = F := ⟨(kSp l k).src.toNat, by omega⟩
          obtain ⟨D, hD⟩ : ∃ D : Nat, (kSp l k).dst = D := ⟨(kSp l k).dst.toNat, by omega⟩
          have dds : ((D : Int) == (F : Int)) = false := by rw [beq_eq_false_iff_ne]; omega
          obtain ⟨x1, hx1⟩ : ∃ x1, (kSp l k).lo = x1 := ⟨_, rfl⟩
          obtain ⟨x2, hx2⟩ : ∃ x2, (kSp l k).hi = x2 := ⟨_, rfl⟩
          have hF6 : F < 6 := by omega
          obtain ⟨Pw, hPw⟩ : ∃ Pw, 2 ^ F = Pw := ⟨_, rfl⟩
          have hmin : min F 64 = F := by omega
          have hpw := (small_pow hF6 hPw).1
          have hP64 := (small_pow hF6 hPw).2
          have hand : bits .and .i64 0 (Pw : Int) = 0 := by have := small_and (a := 0) (b := Pw) (by omega) hP64; simpa using this
          have hor : bits .or .i64 0 (Pw : Int) = Pw := by have := small_or (a := 0) (b := Pw) (by omega) hP64; simpa using this
          have hb2 : -700 ≤ x1 ∧ x1 ≤ 700 ∧ -700 ≤ x2 ∧ x2 ≤ 700 := by omega
          have hs2 : -1000 ≤ s.lo ∧ s.lo ≤ 1000 ∧ -1000 ≤ s.hi ∧ s.hi ≤ 1000 := by omega
          have HES := Lib.hid es; have HED := Lib.hid ed; have HLO := Lib.hid (el.trans hx1); have HHI := Lib.hid (eh.trans hx2); have HKK := Lib.hid hKK; have HF := Lib.hid hF; have HD := Lib.hid hD; have HX1 := Lib.hid hx1; have HX2 := Lib.hid hx2
          have HPW := Lib.hid hPw; have HOK := Lib.hid hok; have HB := Lib.hid hb
          have HOKK := Lib.hid (show stepOk l [] k from ⟨hok, fun _ => by omega, fun i hi => by simp at hi, fun hi => by simp at hi⟩)
          clear es ed el eh hKK hF hD hx1 hx2 hPw hok hb hs0 e hF6 hP64 ht2 hk0 hkn
          go_wp2_with fail
          go_at_call 46
          refine (ends_any s.src s.dst s.lo s.hi bl1 _).mono ?_
          rw [HES.out, HED.out, HF.out, HD.out]
          rintro e w' ⟨rfl, x, rfl⟩
          have hB := (Blk.new wr #[.int .i64 s.src, .int .i64 s.dst, .int .i64 s.lo, .int .i64 s.hi, .bool bl1] 59).grow x
          have hC : Chg (fun _ => False) wr _ := ((Chg.refl _ wr).alloc (Obj.cells #[.int .i64 s.src, .int .i64 s.dst, .int .i64 s.lo, .int .i64 s.hi, .bool bl1] 59)).grow x
          generalize (wr.alloc (Obj.cells #[.int .i64 s.src, .int .i64 s.dst, .int .i64 s.lo, .int .i64 s.hi, .bool bl1] 59)).grow x = W at hB hC ⊢
          have b0 := hB.cell_some (i := 0) rfl
          have b1 := hB.cell_some (i := 1) rfl
          have b2 := hB.cell_some (i := 2) rfl
          have b3 := hB.cell_some (i := 3) rfl
          have b4 := hB.cell_some (i := 4) rfl
          clear hB
          have HC := Lib.hid hC
          clear hC
          go_wp2_with fail
          go_at_call 47
          refine (sums_any s.src s.dst s.lo s.hi bl1 _ (by omega) (by omega) (by omega) (by omega)).mono ?_
          rw [HLO.out, HHI.out]
          rintro e w' ⟨rfl, x, rfl⟩
          have hC : Chg (fun _ => False) wr _ := HC.out.grow x
          clear HC b0 b1 b2 b3 b4
          generalize W.grow x = W2 at hC ⊢
          clear W
          have hcg2 : Chg (fun k => k = bf) w W2 := HCG.out.trans hC (fun _ x => x.elim)
          have HBF := Lib.hid (show ∃ v, Blk W2 bf 25 [v] from by obtain ⟨v, hv⟩ := HBFW.out; exact ⟨v, hC.blk hv (fun x => x)⟩)
          have hLk2 := HK.out.chg hcg2 HBF.out HH.out.1 HH.out.2.1 HH.out.2.2.1 HH.out.2.2.2.1 HH.out.2.2.2.2.1 HH.out.2.2.2.2.2
          have k0 := hLk2.ll
          have k1 := hLk2.oo
          have HCG2 := Lib.hid hcg2
          have HLK2 := Lib.hid hLk2
          clear hC hcg2 hLk2
          go_wp2_with fail
          have HCW : Hid (∀ o, Chg (fun _ => False) W2 (W2.alloc o).drew) := Lib.hid (fun o => ((Chg.refl _ W2).alloc o).drew)
          have HNEW : Hid (∀ j u, [Value.int .i64 k][j]? = some u → (W2.alloc (Obj.cells #[.int .i64 k] 3)).drew.cell? ((⟨W2.heap.size, 0, none⟩ : Addr).add j) = some u) := Lib.hid (fun j u hu => by
            rw [add_plain, Nat.zero_add]
            exact (Blk.new W2 #[.int .i64 k] 3).drew.cell_some hu)
          obtain ⟨r1, hr1⟩ : ∃ r1, ringSearch T l m [k] = r1 := ⟨_, rfl⟩
          have hik := HI.out k
          rw [HF.out, HD.out, HX1.out, HX2.out, hr1, Int.toNat_natCast, HPW.out] at hik
          have HIK := Lib.hid hik; have HR1 := Lib.hid hr1
          clear hik hr1
          have hbo2 : bo < W2.heap.size := World.cell_lt k1
          have hbl2 : bf < W2.heap.size := by obtain ⟨v, hv⟩ := HBF.out; exact hv.lt
          have hw1 : IntKind.i64.wrap x1 = x1 := by rw [IntKind.wrap_i64]; omega
          have hw2 : IntKind.i64.wrap x2 = x2 := by rw [IntKind.wrap_i64]; omega
          have hw3 : bits .or .i64 0 (IntKind.i64.wrap (2 ^ F)) = (Pw : Int) := by rw [show IntKind.i64.wrap (2 ^ F) = (Pw : Int) from by rw [IntKind.wrap_i64]; unfold wrap64 at hpw; exact hpw]; exact hor
          have HW1 := Lib.hid hw1; have HW2 := Lib.hid hw2; have HW3 := Lib.hid hw3
          clear hw1 hw2 hw3
          go_region_law (first
            | (refine step_append_grows rfl (.tmp 112) (.tmp 114) 25 rfl 3 i0 (.int .i64 0) 1 8 Try.underlying25 HI0.out HZ0.out HZ1.out HZ2.out rfl (by decide) none 0 0 [] (by simp [Act.eval]) (fun _ => ⟨rfl, rfl⟩) rfl (fun b hb j u hu => by cases hb) ⟨W2.heap.size, 0, none⟩ 1 1 [.int .i64 k] (by simp [Act.eval]) rfl HNEW.out (by intro u hu; simp at hu; subst hu; rfl) (by omega) (by simp [maxLen]) (by omega) ?_
               intro v1 w1 hown1 hgrow1
               have hc3 : Chg (fun _ => False) W2 w1 := (HCW.out _).trans (Chg.of_grown hgrow1) (fun _ x => x.elim)
               obtain ⟨g, c1, rfl, hg1, hg2, hI3, hgc⟩ := owns_ints (X := [k]) hown1 (by simp)
               have k1' := hc3.cell_some k1 (fun x => x)
               have hg3 : g ≠ bf := by simp at hg1; omega
               have HL3 := Lib.hid (HLK2.out.chg0 hc3)
               have HC3 := Lib.hid hc3; have HI3 := Lib.hid hI3
               clear hc3 hI3 hown1 hgrow1)
            | (go_simp
               go_at_call 44
               rw [HW1.out, HW2.out, HW3.out]
               refine (HIK.out g c1 w1 HOKK.out HL3.out HI3.out hg3 hgc).mono ?_
               rintro e w' ⟨rfl, hc4, hbf4, hsome⟩
               have HC4 := Lib.hid ((HCG2.out.trans HC3.out (fun _ x => x.elim)).trans hc4 (fun k hk => .inl hk))
               have HBF4 := Lib.hid hbf4; have HSOME := Lib.hid hsome
               clear hc4 hbf4 hsome))
          all_goals
            cases r1 with
            | none =>
              go_wp2_with fail
              go_roundg ((l.length : Int) + 1 - (k + 1)).toNat
              case measure => omega
              case rel => exact ⟨k + 1, by omega, by omega, rfl, by go_num, ⟨F, F, 0, rfl, rfl, rfl⟩, none_next HNO.out ((cand_go HOKK.out).trans HR1.out), HC4.out, HBF4.out⟩
            | some X =>
              go_wp2_with fail
              go_ret
              have hr0 : r0 = some X := by
                rw [← HR0.out]
                exact search_some HNO.out hk1 hkl ((cand_go HOKK.out).trans HR1.out)
              subst hr0
              exact ⟨rfl, HC4.out, HBF4.out, HSOME.out⟩
    · have dk : decide (k ≤ (l.length : Int)) = false := by rw [decide_eq_false_iff_not]; exact hkl
      have hr0 : r0 = none := by
        rw [← HR0.out]
        exact search_none fun k' h1 h2 => HNO.out k' h1 (by omega)
      subst hr0
      clear hkl
      go_wp2_with fail
      go_ret
      exact ⟨rfl, HCG.out, HBFW.out, fun X hX => by cases hX⟩
end Go.Proofs.Ytgamekcjjpjnnaa
