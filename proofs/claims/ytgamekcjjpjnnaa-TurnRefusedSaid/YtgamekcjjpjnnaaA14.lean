/- turn.Ring's recursive closure, walked: one step further. Its conditions are its premises. -/
import Derived.Test.YtgamekcjjpjnnaaA13
set_option linter.unusedVariables false
namespace Go.Proofs.Ytgamekcjjpjnnaa
open Go.RowKit

theorem cand_skip {T m : Nat} {l : List Sp} {R : List Int} {k : Int} (h : ¬ stepOk l R k) : cand T l m R k = none := if_neg h
theorem cand_go {T m : Nat} {l : List Sp} {R : List Int} {k : Int} (h : stepOk l R k) : cand T l m R k = ringSearch T l m (R ++ [k]) := if_pos h
theorem none_next {T m : Nat} {l : List Sp} {R : List Int} {k : Int} (h : ∀ k' : Int, -(l.length : Int) ≤ k' → k' < k → cand T l m R k' = none) (hk : cand T l m R k = none) :
    ∀ k' : Int, -(l.length : Int) ≤ k' → k' < k + 1 → cand T l m R k' = none := fun k' h1 h2 => by
  by_cases he : k' = k
  · rw [he]; exact hk
  · exact h k' h1 (by omega)

set_option maxRecDepth 100000 in
set_option maxHeartbeats 4000000 in
theorem ring_step (T N : Nat) (l : List Sp) (hv : Valid T N l) (bl bf bp bs bo p b off L : Nat) (a : Option Addr) (cap : Nat) (ha : l = [] ∨ a = some ⟨b, off, none⟩) (hL : L ≤ N) (m : Nat) (R : List Int) (br cr : Nat) (w : World)
    (hK : RLook w bl bf bp bs bo p b off L T N a cap l) (hm : R.length + (m + 1) = L) (h1 : 1 ≤ R.length) (hR : IntsAt w br 0 R) (hcr : R.length ≤ cr) (hbr : br ≠ bf) (hch : Chain l R R.length)
    (h2 : bl ≠ bf) (h3 : bp ≠ bf) (h4 : bs ≠ bf) (h5 : bo ≠ bf) (h6 : p ≠ bf) (h7 : b ≠ bf)
    (ih : ∀ (k : Int) (g c : Nat) (w' : World), stepOk l R k → RLook w' bl bf bp bs bo p b off L T N a cap l → IntsAt w' g 0 (R ++ [k]) → g ≠ bf → R.length + 1 ≤ c →
      Calls Try.prog 44 #[.slice (some ⟨g, 0, none⟩) (R.length + 1) c, .int .i64 (kSp l (hr R 0)).src, .int .i64 (kSp l k).dst, .int .i64 ((seenN l R R.length ||| 2 ^ (kSp l k).src.toNat : Nat)), .int .i64 (sumLo l R R.length + (kSp l k).lo), .int .i64 (sumHi l R R.length + (kSp l k).hi),
        .pointer (some ⟨bl, 0, none⟩), .pointer (some ⟨bf, 0, none⟩), .pointer (some ⟨bp, 0, none⟩), .pointer (some ⟨bs, 0, none⟩), .pointer (some ⟨bo, 0, none⟩)] w' (RPost (ringSearch T l m (R ++ [k])) bf w')) :
    Calls Try.prog 44 #[.slice (some ⟨br, 0, none⟩) R.length cr, .int .i64 (kSp l (hr R 0)).src, .int .i64 (kSp l (hr R (R.length - 1))).dst, .int .i64 (seenN l R R.length : Nat), .int .i64 (sumLo l R R.length), .int .i64 (sumHi l R R.length),
      .pointer (some ⟨bl, 0, none⟩), .pointer (some ⟨bf, 0, none⟩), .pointer (some ⟨bp, 0, none⟩), .pointer (some ⟨bs, 0, none⟩), .pointer (some ⟨bo, 0, none⟩)] w (RPost (ringSearch T l (m + 1) R) bf w) := by
  obtain ⟨i0, hi0, hz0, hz1, hz2⟩ := info_parts info3
  have hl20 := hv.len
  have hfew := hch.few hv
  have hsb := sum_bounds hv hch.ok
  have hn2 := hv.n2
  have hs64 := seenN_lt hv hch.ok
  have hm6 : R.length + (m + 1) ≤ 6 := by omega
  have hne : R ≠ [] := by intro h; simp [h] at h1
  have hF0 := (kSp_ok hv (hch.ok 0 (by omega)))
  obtain ⟨S, hS⟩ : ∃ S : Nat, (kSp l (hr R 0)).src = S := ⟨(kSp l (hr R 0)).src.toNat, by omega⟩
  have hF1 := (kSp_ok hv (hch.ok (R.length - 1) (by omega)))
  obtain ⟨A, hA⟩ : ∃ A : Nat, (kSp l (hr R (R.length - 1))).dst = A := ⟨(kSp l (hr R (R.length - 1))).dst.toNat, by omega⟩
  obtain ⟨lo, hlo⟩ : ∃ lo, sumLo l R R.length = lo := ⟨_, rfl⟩
  obtain ⟨hi, hhi⟩ : ∃ hi, sumHi l R R.length = hi := ⟨_, rfl⟩
  obtain ⟨sn, hsn⟩ : ∃ sn, seenN l R R.length = sn := ⟨_, rfl⟩
  obtain ⟨r0, hr0⟩ : ∃ r0, ringSearch T l (m + 1) R = r0 := ⟨_, rfl⟩
  rw [hr0]
  simp only [hS, hA, hlo, hhi, hsn] at ih hsb hs64 ⊢
  have dlen : ((R.length : Int) == (L : Int)) = false := by simp; omega
  have dz : ((R.length : Int) == 0) = false := by simp; omega
  have HV := Lib.hid hv; have HA := Lib.hid ha; have HK := Lib.hid hK; have HR := Lib.hid hR; have HCH := Lib.hid hch; have HI := Lib.hid ih; have HS := Lib.hid hS; have HAT := Lib.hid hA; have HSN := Lib.hid hsn; have HR0 := Lib.hid hr0
  have HM := Lib.hid hm; have HBR := Lib.hid hbr; have HNE := Lib.hid hne; have HH := Lib.hid (show bl ≠ bf ∧ bp ≠ bf ∧ bs ≠ bf ∧ bo ≠ bf ∧ p ≠ bf ∧ b ≠ bf from ⟨h2, h3, h4, h5, h6, h7⟩)
  have HI0 := Lib.hid hi0; have HZ0 := Lib.hid hz0; have HZ1 := Lib.hid hz1; have HZ2 := Lib.hid hz2
  have c0 := hK.ll
  have c1 := hK.ss
  clear hv ha hK hR hch ih hS hA hsn hr0 hm hbr hne h2 h3 h4 h5 h6 h7 hi0 hz0 hz1 hz2 hlo hhi hF0 hF1 hfew
  go_enter Try.func44, Try.ntmps44
  go_wp2
  clear c0 c1
  go_loopg [1, 2, 3, 18] (2 * l.length + 1) (fun g f1 at1 sv kv wr => ∃ k : Int, -(l.length : Int) ≤ k ∧ k ≤ l.length + 1 ∧ g = (l.length + 1 - k).toNat ∧ kv = .int .i64 k ∧ f1 = .int .i64 S ∧ at1 = .int .i64 A ∧ sv = .int .i64 sn ∧
    (∀ k' : Int, -(l.length : Int) ≤ k' → k' < k → cand T l m R k' = none) ∧ Chg (fun k => k = bf) w wr ∧ ∃ v, Blk wr bf 25 [v])
  case atStart => exact ⟨-(l.length : Int), by omega, by omega, by omega, rfl, rfl, rfl, rfl, fun k' h1 h2 => by omega, Chg.refl _ w, HK.out.ff⟩
  case round =>
    obtain ⟨k, hk1, hk2, rfl, rfl, rfl, rfl, rfl, hno, hcg, hbf⟩ := hrel
    have hLk := HK.out.chg hcg hbf HH.out.1 HH.out.2.1 HH.out.2.2.1 HH.out.2.2.2.1 HH.out.2.2.2.2.1 HH.out.2.2.2.2.2
    have g0 := hLk.ll
    have g1 := hLk.ss
    have HNO := Lib.hid hno; have HCG := Lib.hid hcg; have HBFW := Lib.hid hbf; have HLK := Lib.hid hLk
    clear hno hcg hbf hLk
    by_cases hkl : k ≤ l.length
    · have dk : decide (k ≤ (l.length : Int)) = true := by simpa using hkl
      by_cases hk0 : k = 0
      · have HNOT := Lib.hid (show ¬ stepOk l R k from fun h => h.1.1 hk0)
        have dk0 : (k == 0) = true := by simpa using hk0
        clear hk0
        go_wp2_with fail
        go_roundg ((l.length : Int) + 1 - (k + 1)).toNat
        case measure => omega
        case rel => exact ⟨k + 1, by omega, by omega, rfl, by go_num, rfl, rfl, rfl, none_next HNO.out (cand_skip HNOT.out), HCG.out, HBFW.out⟩
      · have dk0 : (k == 0) = false := by simpa using hk0
        have hok : kOk l k := ⟨hk0, hk1, hkl⟩
        have hb := kSp_ok HV.out hok
        have hlt : k.natAbs - 1 < l.length := by omega
        have hnea : a = some ⟨b, off, none⟩ := HA.out.resolve_left (by intro h; simp [h] at hlt)
        subst hnea
        obtain ⟨c0, c1, c2, c3⟩ := HLK.out.spans _ hlt
        have hs0 := HV.out.ok _ (List.getElem_mem hlt)
        have ht2 := HV.out.t2
        have e : l.getD (k.natAbs - 1) default = l[k.natAbs - 1] := by rw [List.getD_eq_getElem?_getD, List.getElem?_eq_getElem hlt]; rfl
        rw [← e] at c0 c1 c2 c3 hs0
        have es := kSp_src l k
        have ed := kSp_dst l k
        have el := kSp_lo l k
        have eh := kSp_hi l k
        obtain ⟨K, hKK⟩ : ∃ K, k.natAbs - 1 = K := ⟨_, rfl⟩
        rw [hKK] at c0 c1 c2 c3 es ed el eh hlt hs0
        generalize l.getD K default = s at c0 c1 c2 c3 es ed el eh hs0
        obtain ⟨bl1, hbl⟩ : ∃ bl1, decide (0 < k) = bl1 := ⟨_, rfl⟩
        rw [hbl] at es ed el eh
        have hif : (if k < -k then -k else k) = (K : Int) + 1 := by split <;> omega
        have hmax : max k (-k) = (K : Int) + 1 := by omega
        have hwn : wrap64 (-k) = -k := by unfold wrap64; omega
        obtain ⟨F, hF⟩ : ∃ F : Nat, (kSp l k).src = F := ⟨(kSp l k).src.toNat, by omega⟩
        obtain ⟨D, hD⟩ : ∃ D : Nat, (kSp l k).dst = D := ⟨(kSp l k).dst.toNat, by omega⟩
        obtain ⟨x1, hx1⟩ : ∃ x1, (kSp l k).lo = x1 := ⟨_, rfl⟩
        obtain ⟨x2, hx2⟩ : ∃ x2, (kSp l k).hi = x2 := ⟨_, rfl⟩
        have hF6 : F < 6 := by omega
        obtain ⟨Pw, hPw⟩ : ∃ Pw, 2 ^ F = Pw := ⟨_, rfl⟩
        have hmin : min F 64 = F := by omega
        have hpw := (small_pow hF6 hPw).1
        have hP64 := (small_pow hF6 hPw).2
        have hand := small_and hs64 hP64
        have hor := small_or hs64 hP64
        have hbit := met_iff HV.out HCH.out.ok (m := R.length) hPw
        rw [HSN.out] at hbit
        have hb2 : -700 ≤ x1 ∧ x1 ≤ 700 ∧ -700 ≤ x2 ∧ x2 ≤ 700 := by omega
        have hs2 : -1000 ≤ s.lo ∧ s.lo ≤ 1000 ∧ -1000 ≤ s.hi ∧ s.hi ≤ 1000 := by omega
        have HES := Lib.hid es; have HED := Lib.hid ed; have HLO := Lib.hid (el.trans hx1); have HHI := Lib.hid (eh.trans hx2); have HKK := Lib.hid hKK; have HF := Lib.hid hF; have HD := Lib.hid hD; have HX1 := Lib.hid hx1; have HX2 := Lib.hid hx2
        have HBIT := Lib.hid hbit; have HPW := Lib.hid hPw; have HOK := Lib.hid hok; have HB := Lib.hid hb
        clear es ed el eh hKK hF hD hx1 hx2 hbit hPw hok hb hs0 e hF6 hs64 hP64 ht2 hk0
        by_cases hFA : F = A
        · subst hFA
          by_cases hz : sn &&& Pw = 0
          · have hq : (((sn &&& Pw : Nat) : Int) != 0) = false := by rw [hz]; rfl
            have HZ := Lib.hid (show ∀ i, i < R.length → (kSp l (hr R i)).src ≠ (kSp l k).src from fun i hi h => HBIT.out.1 hz ⟨i, hi, by rw [h, HF.out]⟩)
            have HOKK := Lib.hid (show stepOk l R k from ⟨HOK.out, fun h => absurd h HNE.out, HZ.out, fun _ => by rw [HAT.out, HF.out]⟩)
            clear hz
            by_cases hm1 : m = 0
            · have dm : decide ((R.length : Int) < (L : Int) - 1) = false := by have := HM.out; rw [decide_eq_false_iff_not]; omega
              have HM0 := Lib.hid hm1; clear hm1
              go_wp2_with fail
              go_at_call 46
              refine (ends_any s.src s.dst s.lo s.hi bl1 _).mono ?_
              rw [HES.out, HED.out, HF.out, HD.out]
              rintro e w' ⟨rfl, x, rfl⟩
              have hB := (Blk.new wr #[.int .i64 s.src, .int .i64 s.dst, .int .i64 s.lo, .int .i64 s.hi, .bool bl1] 59).grow x
              have hC : Chg (fun _ => False) wr _ := ((Chg.refl _ wr).alloc (Obj.cells #[.int .i64 s.src, .int .i64 s.dst, .int .i64 s.lo, .int .i64 s.hi, .bool bl1] 59)).grow x
              generalize (wr.alloc (Obj.cells #[.int .i64 s.src, .int .i64 s.dst, .int .i64 s.lo, .int .i64 s.hi, .bool bl1] 59)).grow x = W at hB hC ⊢
              have b0 := hB.cell_some (i := 0) rfl
              have b1 := hB.cell_some (i := 1) rfl
              have b2 := hB.cell_some (i := 2) rfl
              have b3 := hB.cell_some (i := 3) rfl
              have b4 := hB.cell_some (i := 4) rfl
              clear hB
              have HC := Lib.hid hC
              clear hC
              go_wp2_with fail
              go_at_call 47
              refine (sums_any s.src s.dst s.lo s.hi bl1 _ (by omega) (by omega) (by omega) (by omega)).mono ?_
              rw [HLO.out, HHI.out]
              rintro e w' ⟨rfl, x, rfl⟩
              have hC : Chg (fun _ => False) wr _ := HC.out.grow x
              clear HC b0 b1 b2 b3 b4
              generalize W.grow x = W2 at hC ⊢
              clear W
              have hcg2 : Chg (fun k => k = bf) w W2 := HCG.out.trans hC (fun _ x => x.elim)
              have HBF := Lib.hid (show ∃ v, Blk W2 bf 25 [v] from by obtain ⟨v, hv⟩ := HBFW.out; exact ⟨v, hC.blk hv (fun x => x)⟩)
              have hLk2 := HK.out.chg hcg2 HBF.out HH.out.1 HH.out.2.1 HH.out.2.2.1 HH.out.2.2.2.1 HH.out.2.2.2.2.1 HH.out.2.2.2.2.2
              have k0 := hLk2.ll
              have k1 := hLk2.oo
              have HCG2 := Lib.hid hcg2
              have HLK2 := Lib.hid hLk2
              clear hC hcg2 hLk2
              go_wp2_with fail
              have HCW : Hid (∀ o, Chg (fun _ => False) W2 (W2.alloc o).drew) := Lib.hid (fun o => ((Chg.refl _ W2).alloc o).drew)
              have HOLD : Hid (∀ w', Chg (fun _ => False) W2 w' → ∀ j u, (R.map (Value.int .i64))[j]? = some u → w'.cell? ((⟨br, 0, none⟩ : Addr).add j) = some u) := Lib.hid (fun w' hc j u hu => by
                rw [add_plain]
                simp at hu
                obtain ⟨x, hx, rfl⟩ := hu
                obtain ⟨hj, rfl⟩ := List.getElem?_eq_some_iff.1 hx
                exact hc.cell_some ((HR.out.chg HCG2.out HBR.out) j hj) (fun x => x))
              have HNEW : Hid (∀ j u, [Value.int .i64 k][j]? = some u → (W2.alloc (Obj.cells #[.int .i64 k] 3)).drew.cell? ((⟨W2.heap.size, 0, none⟩ : Addr).add j) = some u) := Lib.hid (fun j u hu => by
                rw [add_plain, Nat.zero_add]
                exact (Blk.new W2 #[.int .i64 k] 3).drew.cell_some hu)
              obtain ⟨r1, hr1⟩ : ∃ r1, ringSearch T l m (R ++ [k]) = r1 := ⟨_, rfl⟩
              have hik := HI.out k
              rw [HF.out, HD.out, HX1.out, HX2.out, hr1, Int.toNat_natCast, HPW.out] at hik
              have HIK := Lib.hid hik; have HR1 := Lib.hid hr1
              clear hik hr1
              have hbo2 : bo < W2.heap.size := World.cell_lt k1
              have hbl2 : bf < W2.heap.size := by obtain ⟨v, hv⟩ := HBF.out; exact hv.lt
              have hw1 : IntKind.i64.wrap (lo + x1) = lo + x1 := by rw [IntKind.wrap_i64]; omega
              have hw2 : IntKind.i64.wrap (hi + x2) = hi + x2 := by rw [IntKind.wrap_i64]; omega
              have hw3 : bits .or .i64 (sn : Int) (IntKind.i64.wrap (2 ^ F)) = ((sn ||| Pw : Nat) : Int) := by rw [show IntKind.i64.wrap (2 ^ F) = (Pw : Int) from by rw [IntKind.wrap_i64]; unfold wrap64 at hpw; exact hpw]; exact hor
              have HW1 := Lib.hid hw1; have HW2 := Lib.hid hw2; have HW3 := Lib.hid hw3
              clear hw1 hw2 hw3
              go_region_law (first
                | (refine step_append_grows rfl (.tmp 112) (.tmp 114) 25 rfl 3 i0 (.int .i64 0) 1 8 Try.underlying25 HI0.out HZ0.out HZ1.out HZ2.out rfl (by decide) (some ⟨br, 0, none⟩) R.length R.length (R.map (Value.int .i64)) (by simp [Act.eval]) (by intro h; cases h) (by simp) (fun b hb j u hu => by cases hb; exact HOLD.out _ (HCW.out _) j u hu) ⟨W2.heap.size, 0, none⟩ 1 1 [.int .i64 k] (by simp [Act.eval]) rfl HNEW.out (by intro u hu; simp at hu; subst hu; rfl) (by omega) (by simp [maxLen]; omega) (by omega) ?_
                   intro v1 w1 hown1 hgrow1
                   have hc3 : Chg (fun _ => False) W2 w1 := (HCW.out _).trans (Chg.of_grown hgrow1) (fun _ x => x.elim)
                   obtain ⟨g, c1, rfl, hg1, hg2, hI3, hgc⟩ := owns_ints (X := R ++ [k]) (by rw [List.map_append]; exact hown1) (by simp)
                   rw [show (R ++ [k]).length = R.length + 1 by simp] at hgc ⊢
                   have k1' := hc3.cell_some k1 (fun x => x)
                   have hg3 : g ≠ bf := by simp at hg1; omega
                   have HL3 := Lib.hid (HLK2.out.chg0 hc3)
                   have HC3 := Lib.hid hc3; have HI3 := Lib.hid hI3
                   clear hc3 hI3 hown1 hgrow1)
                | (go_simp
                   go_at_call 44
                   rw [HW1.out, HW2.out, HW3.out]
                   refine (HIK.out g c1 w1 HOKK.out HL3.out HI3.out hg3 hgc).mono ?_
                   rintro e w' ⟨rfl, hc4, hbf4, hsome⟩
                   have HC4 := Lib.hid ((HCG2.out.trans HC3.out (fun _ x => x.elim)).trans hc4 (fun k hk => .inl hk))
                   have HBF4 := Lib.hid hbf4; have HSOME := Lib.hid hsome
                   clear hc4 hbf4 hsome))
              all_goals
                cases r1 with
                | none =>
                  go_wp2_with fail
                  go_roundg ((l.length : Int) + 1 - (k + 1)).toNat
                  case measure => omega
                  case rel => exact ⟨k + 1, by omega, by omega, rfl, by go_num, rfl, rfl, rfl, none_next HNO.out ((cand_go HOKK.out).trans HR1.out), HC4.out, HBF4.out⟩
                | some X =>
                  go_wp2_with fail
                  go_ret
                  have hr0 : r0 = some X := by
                    rw [← HR0.out]
                    exact search_some HNO.out hk1 hkl ((cand_go HOKK.out).trans HR1.out)
                  subst hr0
                  exact ⟨rfl, HC4.out, HBF4.out, HSOME.out⟩
            · have dm : decide ((R.length : Int) < (L : Int) - 1) = true := by have := HM.out; rw [decide_eq_true_eq]; omega
              by_cases hDS : D = S
              · have dds : ((D : Int) == (S : Int)) = true := by rw [beq_iff_eq]; omega
                have HND := Lib.hid (show cand T l m R k = none from by
                  rw [cand_go HOKK.out]
                  obtain ⟨m', rfl⟩ : ∃ m', m = m' + 1 := ⟨m - 1, by omega⟩
                  exact dead (by omega) (by rw [HD.out, HS.out, hDS]))
                clear hm1 hDS
                go_wp2_with fail
                go_at_call 46
                refine (ends_any s.src s.dst s.lo s.hi bl1 _).mono ?_
                rw [HES.out, HED.out, HF.out, HD.out]
                rintro e w' ⟨rfl, x, rfl⟩
                have hB := (Blk.new wr #[.int .i64 s.src, .int .i64 s.dst, .int .i64 s.lo, .int .i64 s.hi, .bool bl1] 59).grow x
                have hC : Chg (fun _ => False) wr _ := ((Chg.refl _ wr).alloc (Obj.cells #[.int .i64 s.src, .int .i64 s.dst, .int .i64 s.lo, .int .i64 s.hi, .bool bl1] 59)).grow x
                generalize (wr.alloc (Obj.cells #[.int .i64 s.src, .int .i64 s.dst, .int .i64 s.lo, .int .i64 s.hi, .bool bl1] 59)).grow x = W at hB hC ⊢
                have b0 := hB.cell_some (i := 0) rfl
                have b1 := hB.cell_some (i := 1) rfl
                have b2 := hB.cell_some (i := 2) rfl
                have b3 := hB.cell_some (i := 3) rfl
                have b4 := hB.cell_some (i := 4) rfl
                clear hB
                have HC := Lib.hid hC
                clear hC
                go_wp2_with fail
                go_at_call 47
                refine (sums_any s.src s.dst s.lo s.hi bl1 _ (by omega) (by omega) (by omega) (by omega)).mono ?_
                rw [HLO.out, HHI.out]
                rintro e w' ⟨rfl, x, rfl⟩
                have hC : Chg (fun _ => False) wr _ := HC.out.grow x
                clear HC b0 b1 b2 b3 b4
                generalize W.grow x = W2 at hC ⊢
                clear W
                have hcg2 : Chg (fun k => k = bf) w W2 := HCG.out.trans hC (fun _ x => x.elim)
                have HBF := Lib.hid (show ∃ v, Blk W2 bf 25 [v] from by obtain ⟨v, hv⟩ := HBFW.out; exact ⟨v, hC.blk hv (fun x => x)⟩)
                have hLk2 := HK.out.chg hcg2 HBF.out HH.out.1 HH.out.2.1 HH.out.2.2.1 HH.out.2.2.2.1 HH.out.2.2.2.2.1 HH.out.2.2.2.2.2
                have k0 := hLk2.ll
                have k1 := hLk2.oo
                have HCG2 := Lib.hid hcg2
                have HLK2 := Lib.hid hLk2
                clear hC hcg2 hLk2
                go_wp2_with fail
                go_roundg ((l.length : Int) + 1 - (k + 1)).toNat
                case measure => omega
                case rel => exact ⟨k + 1, by omega, by omega, rfl, by go_num, rfl, rfl, rfl, none_next HNO.out HND.out, HCG2.out, HBF.out⟩
              · have dds : ((D : Int) == (S : Int)) = false := by rw [beq_eq_false_iff_ne]; omega
                clear hm1 hDS
                go_wp2_with fail
                go_at_call 46
                refine (ends_any s.src s.dst s.lo s.hi bl1 _).mono ?_
                rw [HES.out, HED.out, HF.out, HD.out]
                rintro e w' ⟨rfl, x, rfl⟩
                have hB := (Blk.new wr #[.int .i64 s.src, .int .i64 s.dst, .int .i64 s.lo, .int .i64 s.hi, .bool bl1] 59).grow x
                have hC : Chg (fun _ => False) wr _ := ((Chg.refl _ wr).alloc (Obj.cells #[.int .i64 s.src, .int .i64 s.dst, .int .i64 s.lo, .int .i64 s.hi, .bool bl1] 59)).grow x
                generalize (wr.alloc (Obj.cells #[.int .i64 s.src, .int .i64 s.dst, .int .i64 s.lo, .int .i64 s.hi, .bool bl1] 59)).grow x = W at hB hC ⊢
                have b0 := hB.cell_some (i := 0) rfl
                have b1 := hB.cell_some (i := 1) rfl
                have b2 := hB.cell_some (i := 2) rfl
                have b3 := hB.cell_some (i := 3) rfl
                have b4 := hB.cell_some (i := 4) rfl
                clear hB
                have HC := Lib.hid hC
                clear hC
                go_wp2_with fail
                go_at_call 47
                refine (sums_any s.src s.dst s.lo s.hi bl1 _ (by omega) (by omega) (by omega) (by omega)).mono ?_
                rw [HLO.out, HHI.out]
                rintro e w' ⟨rfl, x, rfl⟩
                have hC : Chg (fun _ => False) wr _ := HC.out.grow x
                clear HC b0 b1 b2 b3 b4
                generalize W.grow x = W2 at hC ⊢
                clear W
                have hcg2 : Chg (fun k => k = bf) w W2 := HCG.out.trans hC (fun _ x => x.elim)
                have HBF := Lib.hid (show ∃ v, Blk W2 bf 25 [v] from by obtain ⟨v, hv⟩ := HBFW.out; exact ⟨v, hC.blk hv (fun x => x)⟩)
                have hLk2 := HK.out.chg hcg2 HBF.out HH.out.1 HH.out.2.1 HH.out.2.2.1 HH.out.2.2.2.1 HH.out.2.2.2.2.1 HH.out.2.2.2.2.2
                have k0 := hLk2.ll
                have k1 := hLk2.oo
                have HCG2 := Lib.hid hcg2
                have HLK2 := Lib.hid hLk2
                clear hC hcg2 hLk2
                go_wp2_with fail
                have HCW : Hid (∀ o, Chg (fun _ => False) W2 (W2.alloc o).drew) := Lib.hid (fun o => ((Chg.refl _ W2).alloc o).drew)
                have HOLD : Hid (∀ w', Chg (fun _ => False) W2 w' → ∀ j u, (R.map (Value.int .i64))[j]? = some u → w'.cell? ((⟨br, 0, none⟩ : Addr).add j) = some u) := Lib.hid (fun w' hc j u hu => by
                  rw [add_plain]
                  simp at hu
                  obtain ⟨x, hx, rfl⟩ := hu
                  obtain ⟨hj, rfl⟩ := List.getElem?_eq_some_iff.1 hx
                  exact hc.cell_some ((HR.out.chg HCG2.out HBR.out) j hj) (fun x => x))
                have HNEW : Hid (∀ j u, [Value.int .i64 k][j]? = some u → (W2.alloc (Obj.cells #[.int .i64 k] 3)).drew.cell? ((⟨W2.heap.size, 0, none⟩ : Addr).add j) = some u) := Lib.hid (fun j u hu => by
                  rw [add_plain, Nat.zero_add]
                  exact (Blk.new W2 #[.int .i64 k] 3).drew.cell_some hu)
                obtain ⟨r1, hr1⟩ : ∃ r1, ringSearch T l m (R ++ [k]) = r1 := ⟨_, rfl⟩
                have hik := HI.out k
                rw [HF.out, HD.out, HX1.out, HX2.out, hr1, Int.toNat_natCast, HPW.out] at hik
                have HIK := Lib.hid hik; have HR1 := Lib.hid hr1
                clear hik hr1
                have hbo2 : bo < W2.heap.size := World.cell_lt k1
                have hbl2 : bf < W2.heap.size := by obtain ⟨v, hv⟩ := HBF.out; exact hv.lt
                have hw1 : IntKind.i64.wrap (lo + x1) = lo + x1 := by rw [IntKind.wrap_i64]; omega
                have hw2 : IntKind.i64.wrap (hi + x2) = hi + x2 := by rw [IntKind.wrap_i64]; omega
                have hw3 : bits .or .i64 (sn : Int) (IntKind.i64.wrap (2 ^ F)) = ((sn ||| Pw : Nat) : Int) := by rw [show IntKind.i64.wrap (2 ^ F) = (Pw : Int) from by rw [IntKind.wrap_i64]; unfold wrap64 at hpw; exact hpw]; exact hor
                have HW1 := Lib.hid hw1; have HW2 := Lib.hid hw2; have HW3 := Lib.hid hw3
                clear hw1 hw2 hw3
                go_region_law (first
                  | (refine step_append_grows rfl (.tmp 112) (.tmp 114) 25 rfl 3 i0 (.int .i64 0) 1 8 Try.underlying25 HI0.out HZ0.out HZ1.out HZ2.out rfl (by decide) (some ⟨br, 0, none⟩) R.length R.length (R.map (Value.int .i64)) (by simp [Act.eval]) (by intro h; cases h) (by simp) (fun b hb j u hu => by cases hb; exact HOLD.out _ (HCW.out _) j u hu) ⟨W2.heap.size, 0, none⟩ 1 1 [.int .i64 k] (by simp [Act.eval]) rfl HNEW.out (by intro u hu; simp at hu; subst hu; rfl) (by omega) (by simp [maxLen]; omega) (by omega) ?_
                     intro v1 w1 hown1 hgrow1
                     have hc3 : Chg (fun _ => False) W2 w1 := (HCW.out _).trans (Chg.of_grown hgrow1) (fun _ x => x.elim)
                     obtain ⟨g, c1, rfl, hg1, hg2, hI3, hgc⟩ := owns_ints (X := R ++ [k]) (by rw [List.map_append]; exact hown1) (by simp)
                     rw [show (R ++ [k]).length = R.length + 1 by simp] at hgc ⊢
                     have k1' := hc3.cell_some k1 (fun x => x)
                     have hg3 : g ≠ bf := by simp at hg1; omega
                     have HL3 := Lib.hid (HLK2.out.chg0 hc3)
                     have HC3 := Lib.hid hc3; have HI3 := Lib.hid hI3
                     clear hc3 hI3 hown1 hgrow1)
                  | (go_simp
                     go_at_call 44
                     rw [HW1.out, HW2.out, HW3.out]
                     refine (HIK.out g c1 w1 HOKK.out HL3.out HI3.out hg3 hgc).mono ?_
                     rintro e w' ⟨rfl, hc4, hbf4, hsome⟩
                     have HC4 := Lib.hid ((HCG2.out.trans HC3.out (fun _ x => x.elim)).trans hc4 (fun k hk => .inl hk))
                     have HBF4 := Lib.hid hbf4; have HSOME := Lib.hid hsome
                     clear hc4 hbf4 hsome))
                all_goals
                  cases r1 with
                  | none =>
                    go_wp2_with fail
                    go_roundg ((l.length : Int) + 1 - (k + 1)).toNat
                    case measure => omega
                    case rel => exact ⟨k + 1, by omega, by omega, rfl, by go_num, rfl, rfl, rfl, none_next HNO.out ((cand_go HOKK.out).trans HR1.out), HC4.out, HBF4.out⟩
                  | some X =>
                    go_wp2_with fail
                    go_ret
                    have hr0 : r0 = some X := by
                      rw [← HR0.out]
                      exact search_some HNO.out hk1 hkl ((cand_go HOKK.out).trans HR1.out)
                    subst hr0
                    exact ⟨rfl, HC4.out, HBF4.out, HSOME.out⟩
          · have hq : (((sn &&& Pw : Nat) : Int) != 0) = true := by rw [bne_iff_ne]; exact fun h => hz (Int.ofNat.inj h)
            have HNOT := Lib.hid (show ¬ stepOk l R k from fun h => hz (HBIT.out.2 (fun ⟨i, h1, h2⟩ => h.2.2.1 i h1 (by rw [h2, HF.out]))))
            clear hz
            go_wp2_with fail
            go_at_call 46
            refine (ends_any s.src s.dst s.lo s.hi bl1 _).mono ?_
            rw [HES.out, HED.out, HF.out, HD.out]
            rintro e w' ⟨rfl, x, rfl⟩
            have hB := (Blk.new wr #[.int .i64 s.src, .int .i64 s.dst, .int .i64 s.lo, .int .i64 s.hi, .bool bl1] 59).grow x
            have hC : Chg (fun _ => False) wr _ := ((Chg.refl _ wr).alloc (Obj.cells #[.int .i64 s.src, .int .i64 s.dst, .int .i64 s.lo, .int .i64 s.hi, .bool bl1] 59)).grow x
            generalize (wr.alloc (Obj.cells #[.int .i64 s.src, .int .i64 s.dst, .int .i64 s.lo, .int .i64 s.hi, .bool bl1] 59)).grow x = W at hB hC ⊢
            have b0 := hB.cell_some (i := 0) rfl
            have b1 := hB.cell_some (i := 1) rfl
            have b2 := hB.cell_some (i := 2) rfl
            have b3 := hB.cell_some (i := 3) rfl
            have b4 := hB.cell_some (i := 4) rfl
            clear hB
            have HC := Lib.hid hC
            clear hC
            go_wp2_with fail
            go_at_call 47
            refine (sums_any s.src s.dst s.lo s.hi bl1 _ (by omega) (by omega) (by omega) (by omega)).mono ?_
            rw [HLO.out, HHI.out]
            rintro e w' ⟨rfl, x, rfl⟩
            have hC : Chg (fun _ => False) wr _ := HC.out.grow x
            clear HC b0 b1 b2 b3 b4
            generalize W.grow x = W2 at hC ⊢
            clear W
            have hcg2 : Chg (fun k => k = bf) w W2 := HCG.out.trans hC (fun _ x => x.elim)
            have HBF := Lib.hid (show ∃ v, Blk W2 bf 25 [v] from by obtain ⟨v, hv⟩ := HBFW.out; exact ⟨v, hC.blk hv (fun x => x)⟩)
            have hLk2 := HK.out.chg hcg2 HBF.out HH.out.1 HH.out.2.1 HH.out.2.2.1 HH.out.2.2.2.1 HH.out.2.2.2.2.1 HH.out.2.2.2.2.2
            have k0 := hLk2.ll
            have k1 := hLk2.oo
            have HCG2 := Lib.hid hcg2
            have HLK2 := Lib.hid hLk2
            clear hC hcg2 hLk2
            go_wp2_with fail
            go_roundg ((l.length : Int) + 1 - (k + 1)).toNat
            case measure => omega
            case rel => exact ⟨k + 1, by omega, by omega, rfl, by go_num, rfl, rfl, rfl, none_next HNO.out (cand_skip HNOT.out), HCG2.out, HBF.out⟩
        · have hq : ((F : Int) != (A : Int)) = true := by rw [bne_iff_ne]; omega
          have HNOT := Lib.hid (show ¬ stepOk l R k from fun h => hFA (by have := h.2.2.2 h1; rw [HAT.out, HF.out] at this; omega))
          clear hFA
          go_wp2_with fail
          go_at_call 46
          refine (ends_any s.src s.dst s.lo s.hi bl1 _).mono ?_
          rw [HES.out, HED.out, HF.out, HD.out]
          rintro e w' ⟨rfl, x, rfl⟩
          have hB := (Blk.new wr #[.int .i64 s.src, .int .i64 s.dst, .int .i64 s.lo, .int .i64 s.hi, .bool bl1] 59).grow x
          have hC : Chg (fun _ => False) wr _ := ((Chg.refl _ wr).alloc (Obj.cells #[.int .i64 s.src, .int .i64 s.dst, .int .i64 s.lo, .int .i64 s.hi, .bool bl1] 59)).grow x
          generalize (wr.alloc (Obj.cells #[.int .i64 s.src, .int .i64 s.dst, .int .i64 s.lo, .int .i64 s.hi, .bool bl1] 59)).grow x = W at hB hC ⊢
          have b0 := hB.cell_some (i := 0) rfl
          have b1 := hB.cell_some (i := 1) rfl
          have b2 := hB.cell_some (i := 2) rfl
          have b3 := hB.cell_some (i := 3) rfl
          have b4 := hB.cell_some (i := 4) rfl
          clear hB
          have HC := Lib.hid hC
          clear hC
          go_wp2_with fail
          go_at_call 47
          refine (sums_any s.src s.dst s.lo s.hi bl1 _ (by omega) (by omega) (by omega) (by omega)).mono ?_
          rw [HLO.out, HHI.out]
          rintro e w' ⟨rfl, x, rfl⟩
          have hC : Chg (fun _ => False) wr _ := HC.out.grow x
          clear HC b0 b1 b2 b3 b4
          generalize W.grow x = W2 at hC ⊢
          clear W
          have hcg2 : Chg (fun k => k = bf) w W2 := HCG.out.trans hC (fun _ x => x.elim)
          have HBF := Lib.hid (show ∃ v, Blk W2 bf 25 [v] from by obtain ⟨v, hv⟩ := HBFW.out; exact ⟨v, hC.blk hv (fun x => x)⟩)
          have hLk2 := HK.out.chg hcg2 HBF.out HH.out.1 HH.out.2.1 HH.out.2.2.1 HH.out.2.2.2.1 HH.out.2.2.2.2.1 HH.out.2.2.2.2.2
          have k0 := hLk2.ll
          have k1 := hLk2.oo
          have HCG2 := Lib.hid hcg2
          have HLK2 := Lib.hid hLk2
          clear hC hcg2 hLk2
          go_wp2_with fail
          go_roundg ((l.length : Int) + 1 - (k + 1)).toNat
          case measure => omega
          case rel => exact ⟨k + 1, by omega, by omega, rfl, by go_num, rfl, rfl, rfl, none_next HNO.out (cand_skip HNOT.out), HCG2.out, HBF.out⟩
    · have dk : decide (k ≤ (l.length : Int)) = false := by rw [decide_eq_false_iff_not]; exact hkl
      have hr0 : r0 = none := by
        rw [← HR0.out]
        exact search_none fun k' h1 h2 => HNO.out k' h1 (by omega)
      subst hr0
      clear hkl
      go_wp2_with fail
      go_ret
      exact ⟨rfl, HCG.out, HBFW.out, fun X hX => by cases hX⟩
end Go.Proofs.Ytgamekcjjpjnnaa
