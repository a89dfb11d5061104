/- The walk of the statement TurnMore: it returns true and changes nothing that was there. Its conditions are its premises. -/
import Derived.Test.YtgamekcjjpjnnaaM12
import Derived.Test.YtgamekcjjpjnnaaA35
import Derived.Test.YtgamekcjjpjnnaaL9
import Derived.Test.YtgamekcjjpjnnaaL6
set_option linter.unusedVariables false
namespace Go.Proofs.Ytgamekcjjpjnnaa
open Go.RowKit

theorem spans_cell {w : World} {b off : Nat} {l : List Sp} (h : SpansAt w b off l) {j : Nat} {u : Value} (hu : (l.flatMap spCells)[j]? = some u) : w.cell? ⟨b, off + j, none⟩ = some u := by
  have hlt := (List.getElem?_eq_some_iff.1 hu).1
  rw [spsCells_len] at hlt
  obtain ⟨k, r, rfl, hr⟩ : ∃ k r, j = k * 4 + r ∧ r < 4 := ⟨j / 4, j % 4, by omega, by omega⟩
  have hk : k < l.length := by omega
  rw [spsCells_get l k hk r hr] at hu
  obtain ⟨c0, c1, c2, c3⟩ := h k hk
  have : r = 0 ∨ r = 1 ∨ r = 2 ∨ r = 3 := by omega
  rcases this with rfl | rfl | rfl | rfl <;> simp [spCells] at hu <;> subst hu
  · exact c0
  · rw [← Nat.add_assoc]; exact c1
  · rw [← Nat.add_assoc]; exact c2
  · rw [← Nat.add_assoc]; exact c3

theorem owns_spans_full {w : World} {base : Nat} {v : Value} {l : List Sp} (h : w.ownsRow base 32 4 v l.length (l.flatMap spCells)) (hn : 0 < l.length) : ∃ g c, v = .slice (some ⟨g, 0, none⟩) l.length c ∧ base ≤ g ∧ g < w.heap.size ∧ (∀ o, w.frozen? ⟨g, o, none⟩ = false) ∧ l.length ≤ c ∧ SpansAt w g 0 l := by
  obtain ⟨g, c, rfl, h1, h2, h3, h4⟩ := owns_spans_free h hn
  obtain ⟨ao, g', c', he, h5, h6, _⟩ := owns_spans h
  have hne : l ≠ [] := by intro h; rw [h] at hn; simp at hn
  have h7 := h5.resolve_left hne
  rw [h7] at he
  cases he
  exact ⟨g, c, rfl, h1, h2, h3, h4, h6⟩

set_option maxRecDepth 100000 in
set_option maxHeartbeats 0 in
theorem more_law (t n : Int) (l : List Sp) (a : Option Addr) (cap b off : Nat) (m : Sp) (wh lw hg : Int) (w : World) (ht : (Lit.int .i64 t).wf = true) (hn : (Lit.int .i64 n).wf = true)
    (hs : SpansAt w b off l) (ha : l = [] ∨ a = some ⟨b, off, none⟩) (_ : ∀ s ∈ l, s.I64) (hm : m.I64) (hwh : (Lit.int .u8 wh).wf = true) (hlw : (Lit.int .u8 lw).wf = true) (hhg : (Lit.int .u8 hg).wf = true) :
    Calls Try.prog 4 #[.int .i64 t, .int .i64 n, .slice a l.length cap, .agg #[.int .i64 m.src, .int .i64 m.dst, .int .i64 m.lo, .int .i64 m.hi], .int .u8 wh, .int .u8 lw, .int .u8 hg] w (TPost w) := by
  obtain ⟨j0, hj0, hy0, hy1, hy2⟩ := info_parts info32
  have HJ0 := Lib.hid hj0; have HY0 := Lib.hid hy0; have HY1 := Lib.hid hy1; have HY2 := Lib.hid hy2
  have HS := Lib.hid hs; have HA := Lib.hid ha
  have HT := Lib.hid (i64_of ht); have HN := Lib.hid (i64_of hn)
  obtain ⟨m1, m2, m3, m4⟩ := hm
  have HMI := Lib.hid (And.intro m3 m4)
  obtain ⟨u1, u2⟩ := u8_of hwh
  obtain ⟨u3, u4⟩ := u8_of hlw
  obtain ⟨u5, u6⟩ := u8_of hhg
  clear hs ha hj0 hy0 hy1 hy2 ht hn m1 m2 m3 m4 hwh hlw hhg
  by_cases hf : l.length ≤ 40
  · have d40 : decide (l.length ≤ 40 ∧ 0 ≤ 40 ∧ 0 ≤ 40) = true := by rw [decide_eq_true_eq]; omega
    clear hf
    go_enter Try.func4, Try.ntmps4
    go_wp2_with fail
    have HC0 := Lib.hid ((Chg.refl (fun _ => False) w).alloc (Obj.cells #[.int .i64 m.src, .int .i64 m.dst, .int .i64 m.lo, .int .i64 m.hi] 32))
    have HBM := Lib.hid (Blk.new w #[.int .i64 m.src, .int .i64 m.dst, .int .i64 m.lo, .int .i64 m.hi] 32)
    generalize (w.alloc (Obj.cells #[.int .i64 m.src, .int .i64 m.dst, .int .i64 m.lo, .int .i64 m.hi] 32)) = w0 at HC0 HBM ⊢
    obtain ⟨Bm, hBm⟩ : ∃ Bm, w.heap.size = Bm := ⟨_, rfl⟩
    rw [hBm] at HBM ⊢
    clear hBm
    refine (few_any a none none l.length 0 0 cap 0 0 w0).mono ?_
    rw [d40]
    rintro e w' ⟨rfl, rfl⟩
    go_wp2_with fail
    refine (mild_any t n w' HT.out HN.out).mono ?_
    rintro e w'' ⟨bm, rfl, rfl, hm⟩
    have HM := Lib.hid hm
    clear hm
    obtain ⟨w', rfl⟩ : ∃ W : World, W = w'' := ⟨_, rfl⟩
    cases bm with
    | false =>
      have HCX := HC0
      go_wp2_with fail
      refine (alive_any _).mono ?_
      rintro e w9 ⟨rfl, hc9⟩
      have HC9 := Lib.hid (HCX.out.trans hc9 (fun _ x => x.elim))
      clear hc9
      go_wp2_with fail
      go_ret
      exact ⟨rfl, HC9.out⟩
    | true =>
      have hM := HM.out rfl
      have HM2 := Lib.hid hM
      clear HM hM
      go_wp2_with fail
      refine (spans_any t n l a cap w' b off (HS.out.chg HC0.out (fun x => x)) HA.out).mono ?_
      rintro e w1 ⟨rfl, x, rfl⟩
      have HC1 := Lib.hid (HC0.out.grow x); have HBM1 := Lib.hid (HBM.out.grow x)
      generalize w'.grow x = w1 at HC1 HBM1 ⊢
      by_cases h0 : spansE t n l = 0
      · rw [h0]
        have hv := valid_of h0
        obtain ⟨T, rfl⟩ : ∃ T : Nat, t = T := ⟨t.toNat, by have := hv.t1; omega⟩
        obtain ⟨N, rfl⟩ : ∃ N : Nat, n = N := ⟨n.toNat, by have := hv.n1; omega⟩
        have H0 := Lib.hid h0; have HV := Lib.hid hv
        have ht1 := hv.t1; have ht2 := hv.t2; have hn1 := hv.n1; have hn2 := hv.n2; have hl20 := hv.len
        have hpm := HM2.out T N rfl rfl (by omega) (by omega) (by omega) (by omega)
        have HFEW := Lib.hid (fun l' : List Sp => (show (plans T N l').length ≤ 10000 from Nat.le_trans (plans_len (l := l') (T := T) (N := N) (by omega) (by omega)) hpm))
        have hpe := plansE_few h0 (by have := HFEW.out l; omega)
        obtain ⟨K, hK⟩ : ∃ K, (plans T N l).length = K := ⟨_, rfl⟩
        rw [hK] at hpe
        have hKb : K ≤ 10000 := by rw [← hK]; exact HFEW.out l
        have HPE := Lib.hid hpe; have HK := Lib.hid hK
        clear h0 hv hpm hpe hK
        by_cases h20 : l.length < 20
        · have d20 : decide (20 ≤ (l.length : Int)) = false := by rw [decide_eq_false_iff_not]; omega
          go_wp2_with fail
          refine (Plans_any T N l a cap w1 b off (HS.out.chg HC1.out (fun x => x)) HA.out).mono ?_
          rw [HPE.out]
          rintro e w2 ⟨rfl, hc2⟩
          have HC2 := Lib.hid (HC1.out.trans hc2 (fun _ x => x.elim)); have HBM2 := Lib.hid (hc2.blk HBM1.out (fun x => x))
          clear hc2
          have b0 := HBM2.out.cell_some (i := 0) rfl
          have b1 := HBM2.out.cell_some (i := 1) rfl
          have b2 := HBM2.out.cell_some (i := 2) rfl
          have b3 := HBM2.out.cell_some (i := 3) rfl
          have hbm := HBM2.out.lt
          go_wp2_with fail
          have HCA : Hid (Chg (fun _ => False) w2 (w2.alloc (Obj.cells #[] 32)).drew) := Lib.hid ((Chg.refl _ w2).alloc _).drew
          have HCB : Hid (Chg (fun _ => False) w2 ((w2.alloc (Obj.cells #[] 32)).alloc (Obj.cells #[.int .i64 m.src, .int .i64 m.dst, .int .i64 m.lo, .int .i64 m.hi] 32)).drew) := Lib.hid (((Chg.refl _ w2).alloc _).alloc _).drew
          have HCC : Hid (Chg (fun _ => False) w2 ((w2.alloc (Obj.cells #[.int .i64 m.src, .int .i64 m.dst, .int .i64 m.lo, .int .i64 m.hi] 32)).alloc (Obj.cells #[] 32)).drew) := Lib.hid (((Chg.refl _ w2).alloc _).alloc _).drew
          have HEA : Hid (Blk (w2.alloc (Obj.cells #[] 32)).drew w2.heap.size 32 []) := Lib.hid (Blk.new w2 #[] 32).drew
          have HEB : Hid (Blk ((w2.alloc (Obj.cells #[] 32)).alloc (Obj.cells #[.int .i64 m.src, .int .i64 m.dst, .int .i64 m.lo, .int .i64 m.hi] 32)).drew w2.heap.size 32 []) := Lib.hid ((Blk.new w2 #[] 32).alloc (Obj.cells #[.int .i64 m.src, .int .i64 m.dst, .int .i64 m.lo, .int .i64 m.hi] 32)).drew
          have HOB : Hid (Blk ((w2.alloc (Obj.cells #[] 32)).alloc (Obj.cells #[.int .i64 m.src, .int .i64 m.dst, .int .i64 m.lo, .int .i64 m.hi] 32)).drew (w2.heap.size + 1) 32 (spCells m)) := Lib.hid (by have := (Blk.new (w2.alloc (Obj.cells #[] 32)) #[.int .i64 m.src, .int .i64 m.dst, .int .i64 m.lo, .int .i64 m.hi] 32).drew; rw [World.size_alloc] at this; exact this)
          have HEC : Hid (Blk ((w2.alloc (Obj.cells #[.int .i64 m.src, .int .i64 m.dst, .int .i64 m.lo, .int .i64 m.hi] 32)).alloc (Obj.cells #[] 32)).drew (w2.heap.size + 1) 32 []) := Lib.hid (by have := (Blk.new (w2.alloc (Obj.cells #[.int .i64 m.src, .int .i64 m.dst, .int .i64 m.lo, .int .i64 m.hi] 32)) #[] 32).drew; rw [World.size_alloc] at this; exact this)
          have HOC : Hid (Blk ((w2.alloc (Obj.cells #[.int .i64 m.src, .int .i64 m.dst, .int .i64 m.lo, .int .i64 m.hi] 32)).alloc (Obj.cells #[] 32)).drew w2.heap.size 32 (spCells m)) := Lib.hid ((Blk.new w2 #[.int .i64 m.src, .int .i64 m.dst, .int .i64 m.lo, .int .i64 m.hi] 32).alloc (Obj.cells #[] 32)).drew
          have HS2 := Lib.hid (HS.out.chg HC2.out (fun x => x))
          have HSRC : Hid (∀ w', Chg (fun _ => False) w2 w' → l.length = 0 ∨ ∃ a', a = some a' ∧ ∀ j u, (l.flatMap spCells)[j]? = some u → w'.cell? (a'.add j) = some u) := Lib.hid (fun w' hc => by
            by_cases hl0 : l.length = 0
            · exact .inl hl0
            · have hne : a = some ⟨b, off, none⟩ := HA.out.resolve_left (by intro h; rw [h] at hl0; simp at hl0)
              exact .inr ⟨_, hne, fun j u hu => by rw [add_plain]; exact spans_cell (HS2.out.chg hc (fun x => x)) hu⟩)
          have HONE : Hid (∀ u ∈ l.flatMap spCells, u.oneCell' = true) := Lib.hid (fun u hu => by
            obtain ⟨s, _, hs⟩ := List.mem_flatMap.1 hu
            simp [spCells] at hs
            rcases hs with rfl | rfl | rfl | rfl <;> rfl)
          go_region_law (first
            | (refine step_append_all rfl (.tmp 53) (.tmp 54) 22 rfl w2.heap.size 32 j0 _ 4 32 Try.underlying22 HJ0.out HY0.out HY1.out HY2.out rfl (by decide) _ 0 [] (by first | (simp [Act.eval]; done) | (simp [Act.eval]; rfl)) (owns_empty (g := w2.heap.size) HEA.out (by omega)) a l.length cap (l.flatMap spCells) (by simp [Act.eval]) (spsCells_len l) (HSRC.out _ HCA.out) HONE.out (by simp [maxLen]; omega) (by omega) (by first | (simp; done) | (simp; omega)) ?_
               intro v1 w3 hown1 hgrow1 _
               rw [Nat.zero_add, List.nil_append] at hown1
               have hc3 : Chg (fun _ => False) w2 w3 := HCA.out.trans (Chg.of_grownRow hgrow1) (fun kk hk => .inr (by simp [Value.ownBlock] at hk; omega))
               have q0 := hc3.cell_some b0 (fun x => x)
               have q1 := hc3.cell_some b1 (fun x => x)
               have q2 := hc3.cell_some b2 (fun x => x)
               have q3 := hc3.cell_some b3 (fun x => x)
               have hz3 : w2.heap.size ≤ w3.heap.size := hc3.size
               have hbm3 : Bm < w3.heap.size := by omega
               have HOW3 := Lib.hid (hown1.alloc (Obj.cells #[.int .i64 m.src, .int .i64 m.dst, .int .i64 m.lo, .int .i64 m.hi] 32))
               have HNW : Hid (∀ j u, (spCells m)[j]? = some u → (w3.alloc (Obj.cells #[.int .i64 m.src, .int .i64 m.dst, .int .i64 m.lo, .int .i64 m.hi] 32)).cell? ((⟨w3.heap.size, 0, none⟩ : Addr).add j) = some u) := Lib.hid (fun j u hu => by rw [add_plain, Nat.zero_add]; exact (Blk.new w3 #[.int .i64 m.src, .int .i64 m.dst, .int .i64 m.lo, .int .i64 m.hi] 32).cell_some hu)
               have HCW := Lib.hid (hc3.alloc (Obj.cells #[.int .i64 m.src, .int .i64 m.dst, .int .i64 m.lo, .int .i64 m.hi] 32))
               have HC3 := Lib.hid hc3
               clear hown1 hgrow1 hc3)
            | (refine step_append_all rfl (.tmp 53) (.tmp 54) 22 rfl w2.heap.size 32 j0 _ 4 32 Try.underlying22 HJ0.out HY0.out HY1.out HY2.out rfl (by decide) _ 0 [] (by first | (simp [Act.eval]; done) | (simp [Act.eval]; rfl)) (owns_empty (g := w2.heap.size) HEB.out (by omega)) a l.length cap (l.flatMap spCells) (by simp [Act.eval]) (spsCells_len l) (HSRC.out _ HCB.out) HONE.out (by simp [maxLen]; omega) (by omega) (by first | (simp; done) | (simp; omega)) ?_
               intro v1 w3 hown1 hgrow1 _
               rw [Nat.zero_add, List.nil_append] at hown1
               have hc3 : Chg (fun _ => False) w2 w3 := HCB.out.trans (Chg.of_grownRow hgrow1) (fun kk hk => .inr (by simp [Value.ownBlock] at hk; omega))
               have q0 := hc3.cell_some b0 (fun x => x)
               have q1 := hc3.cell_some b1 (fun x => x)
               have q2 := hc3.cell_some b2 (fun x => x)
               have q3 := hc3.cell_some b3 (fun x => x)
               have hz3 : w2.heap.size ≤ w3.heap.size := hc3.size
               have hbm3 : Bm < w3.heap.size := by omega
               have HOW3 := Lib.hid hown1
               have HNW : Hid (∀ j u, (spCells m)[j]? = some u → w3.cell? ((⟨w2.heap.size + 1, 0, none⟩ : Addr).add j) = some u) := Lib.hid (fun j u hu => by rw [add_plain, Nat.zero_add]; exact ((Chg.of_grownRow hgrow1).blk HOB.out (by intro hk; simp [Value.ownBlock] at hk)).cell_some hu)
               have HCW := Lib.hid hc3
               have HC3 := Lib.hid hc3
               clear hown1 hgrow1 hc3)
            | (refine step_append_all rfl (.tmp 53) (.tmp 54) 22 rfl w2.heap.size 32 j0 _ 4 32 Try.underlying22 HJ0.out HY0.out HY1.out HY2.out rfl (by decide) _ 0 [] (by first | (simp [Act.eval]; done) | (simp [Act.eval]; rfl)) (owns_empty (g := w2.heap.size + 1) HEC.out (by omega)) a l.length cap (l.flatMap spCells) (by simp [Act.eval]) (spsCells_len l) (HSRC.out _ HCC.out) HONE.out (by simp [maxLen]; omega) (by omega) (by first | (simp; done) | (simp; omega)) ?_
               intro v1 w3 hown1 hgrow1 _
               rw [Nat.zero_add, List.nil_append] at hown1
               have hc3 : Chg (fun _ => False) w2 w3 := HCC.out.trans (Chg.of_grownRow hgrow1) (fun kk hk => .inr (by simp [Value.ownBlock] at hk; omega))
               have q0 := hc3.cell_some b0 (fun x => x)
               have q1 := hc3.cell_some b1 (fun x => x)
               have q2 := hc3.cell_some b2 (fun x => x)
               have q3 := hc3.cell_some b3 (fun x => x)
               have hz3 : w2.heap.size ≤ w3.heap.size := hc3.size
               have hbm3 : Bm < w3.heap.size := by omega
               have HOW3 := Lib.hid hown1
               have HNW : Hid (∀ j u, (spCells m)[j]? = some u → w3.cell? ((⟨w2.heap.size, 0, none⟩ : Addr).add j) = some u) := Lib.hid (fun j u hu => by rw [add_plain, Nat.zero_add]; exact ((Chg.of_grownRow hgrow1).blk HOC.out (by intro hk; simp [Value.ownBlock] at hk)).cell_some hu)
               have HCW := Lib.hid hc3
               have HC3 := Lib.hid hc3
               clear hown1 hgrow1 hc3)
            | (refine step_append_two rfl (.tmp 55) (.tmp 57) 22 rfl w2.heap.size 32 j0 _ 4 32 Try.underlying22 HJ0.out HY0.out HY1.out HY2.out rfl (by decide) _ l.length (l.flatMap spCells) (by first | (simp [Act.eval]; done) | (simp [Act.eval]; rfl)) HOW3.out ⟨w3.heap.size, 0, none⟩ 1 1 (spCells m) (by simp [Act.eval]) rfl HNW.out (by intro u hu; simp [spCells] at hu; rcases hu with rfl | rfl | rfl | rfl <;> rfl) (by simp [maxLen]; omega) (by omega) (by first | omega | (simp; omega)) ?_
               intro v2 w6 hown2 hgrow2 _)
            | (refine step_append_two rfl (.tmp 55) (.tmp 57) 22 rfl w2.heap.size 32 j0 _ 4 32 Try.underlying22 HJ0.out HY0.out HY1.out HY2.out rfl (by decide) _ l.length (l.flatMap spCells) (by first | (simp [Act.eval]; done) | (simp [Act.eval]; rfl)) HOW3.out ⟨w2.heap.size + 1, 0, none⟩ 1 1 (spCells m) (by simp [Act.eval]) rfl HNW.out (by intro u hu; simp [spCells] at hu; rcases hu with rfl | rfl | rfl | rfl <;> rfl) (by simp [maxLen]; omega) (by omega) (by first | omega | (simp; omega)) ?_
               intro v2 w6 hown2 hgrow2 _)
            | (refine step_append_two rfl (.tmp 55) (.tmp 57) 22 rfl w2.heap.size 32 j0 _ 4 32 Try.underlying22 HJ0.out HY0.out HY1.out HY2.out rfl (by decide) _ l.length (l.flatMap spCells) (by first | (simp [Act.eval]; done) | (simp [Act.eval]; rfl)) HOW3.out ⟨w2.heap.size, 0, none⟩ 1 1 (spCells m) (by simp [Act.eval]) rfl HNW.out (by intro u hu; simp [spCells] at hu; rcases hu with rfl | rfl | rfl | rfl <;> rfl) (by simp [maxLen]; omega) (by omega) (by first | omega | (simp; omega)) ?_
               intro v2 w6 hown2 hgrow2 _))
          all_goals
            have hc6 : Chg (fun _ => False) w2 w6 := HCW.out.trans (Chg.of_grownRow hgrow2) (fun kk hk => .inr ((HOW3.out.lt kk hk.symm).1))
            obtain ⟨aq, gq, cq, rfl, hq1, hq2, hq3, hq4⟩ := owns_spans (l := l ++ [m]) (show w6.ownsRow w2.heap.size 32 4 v2 (l.length + 1) ((l ++ [m]).flatMap spCells) by rw [List.flatMap_append, List.flatMap_cons, List.flatMap_nil, List.append_nil]; exact hown2)
            have HC6 := Lib.hid (HC2.out.trans hc6 (fun _ x => x.elim)); have HBM6 := Lib.hid (hc6.blk HBM2.out (fun x => x))
            have HQ1 := Lib.hid hq1; have HQ2 := Lib.hid hq2
            obtain ⟨Q, hQ⟩ : ∃ Q, l ++ [m] = Q := ⟨_, rfl⟩
            rw [hQ] at HQ1 HQ2 ⊢
            have HQQ := Lib.hid hQ
            clear hown2 hgrow2 hc6 hq1 hq2 hq3 hq4 hQ q0 q1 q2 q3 HC3 HCW HOW3 HNW hbm3 hz3 b0 b1 b2 b3 HCA HCB HCC HEA HEB HOB HEC HOC
            go_wp2_with fail
            refine (Plans_any T N Q aq cq w6 gq 0 HQ2.out HQ1.out).mono ?_
            rintro e w7 ⟨rfl, hc7⟩
            have HC7 := Lib.hid (HC6.out.trans hc7 (fun _ x => x.elim)); have HBM7 := Lib.hid (hc7.blk HBM6.out (fun x => x)); have HQ7 := Lib.hid (HQ2.out.chg hc7 (fun x => x))
            clear hc7
            go_wp2_with fail
            refine (spans_any T N Q aq cq w7 gq 0 HQ7.out HQ1.out).mono ?_
            rintro e w8 ⟨rfl, x8, rfl⟩
            have HC8 := Lib.hid (HC7.out.grow x8); have HBM8 := Lib.hid (HBM7.out.grow x8)
            generalize w7.grow x8 = w8 at HC8 HBM8 ⊢
            by_cases hqs : spansE T N Q = 0
            · rw [hqs]
              have hpq := plansE_few hqs (by have := HFEW.out Q; omega)
              obtain ⟨K2, hK2⟩ : ∃ K2, (plans T N Q).length = K2 := ⟨_, rfl⟩
              rw [hK2] at hpq
              have hle : K2 ≤ K := by rw [← hK2, ← HK.out, ← HQQ.out]; exact plans_more
              rw [hpq]
              have dgt : decide ((K : Int) < K2) = false := by rw [decide_eq_false_iff_not]; omega
              have hnlt : ¬ (K < K2) := by omega
              have dnlt : decide (K < K2) = false := decide_eq_false hnlt
              have b3 := HBM8.out.cell_some (i := 3) rfl
              have b2 := HBM8.out.cell_some (i := 2) rfl
              obtain ⟨_, _, _, _, _, hm1, hm2, hm3, hm4⟩ := (valid_of hqs).ok m (by rw [← HQQ.out]; simp)
              by_cases hhi : m.hi = m.lo + T - 1
              · have heq : K = K2 := by rw [← hK2, ← HK.out, ← HQQ.out]; exact (plans_same (by omega) hhi).symm
                subst heq
                by_cases hl0 : l.length = 0
                · have dl0 : ((l.length : Int) == 0) = true := by rw [beq_iff_eq]; omega
                  have HCX := HC8
                  clear hl0
                  go_wp2_with fail
                  refine (alive_any _).mono ?_
                  rintro e w9 ⟨rfl, hc9⟩
                  have HC9 := Lib.hid (HCX.out.trans hc9 (fun _ x => x.elim))
                  clear hc9
                  go_wp2_with fail
                  go_ret
                  exact ⟨rfl, HC9.out⟩
                · have dl0 : ((l.length : Int) == 0) = false := by rw [beq_eq_false_iff_ne]; omega
                  have hlt0 : 0 < l.length := by omega
                  have hI0 : 0 ≤ wh % (l.length : Int) := Int.emod_nonneg _ (by omega)
                  have hI1 : wh % (l.length : Int) < l.length := Int.emod_lt_of_pos _ (by omega)
                  have hIlt : (wh % (l.length : Int)).toNat < l.length := by omega
                  obtain ⟨SI, hSI⟩ : ∃ SI, l[(wh % (l.length : Int)).toNat]'hIlt = SI := ⟨_, rfl⟩
                  obtain ⟨_, _, _, _, _, hlo1, hlo2, hlh, hhi2⟩ := HV.out.ok SI (hSI ▸ List.getElem_mem hIlt)
                  have HE8 : Hid (Blk (w8.alloc (Obj.cells #[] 32)) w8.heap.size 32 []) := Lib.hid (Blk.new w8 #[] 32)
                  have HC9 : Hid (Chg (fun _ => False) w8 (w8.alloc (Obj.cells #[] 32))) := Lib.hid ((Chg.refl _ w8).alloc _)
                  have HSRC8 : Hid (l.length = 0 ∨ ∃ a', a = some a' ∧ ∀ j u, (l.flatMap spCells)[j]? = some u → (w8.alloc (Obj.cells #[] 32)).cell? (a'.add j) = some u) := Lib.hid (.inr ⟨_, HA.out.resolve_left (by intro h; rw [h] at hlt0; simp at hlt0), fun j u hu => by rw [add_plain]; exact spans_cell (HS.out.chg (HC8.out.trans HC9.out (fun _ x => x.elim)) (fun x => x)) hu⟩)
                  have hmm : 0 + l.length ≤ maxLen := by simp [maxLen]; omega
                  have hml : (0 + l.length) * 32 ≤ 140737488355328 := by omega
                  have hz8 : w8.heap.size ≤ (w8.alloc (Obj.cells #[] 32)).heap.size := by simp
                  clear hl0
                  go_wp2_with (at_builtin; refine wpList_append_all rfl (.tmp 108) (.tmp 109) 22 rfl w8.heap.size 32 j0 _ 4 32 Try.underlying22 HJ0.out HY0.out HY1.out HY2.out rfl (by decide) (.slice (some ⟨w8.heap.size, 0, none⟩) 0 0) 0 [] rfl (owns_empty HE8.out (Nat.le_refl _)) a l.length cap (l.flatMap spCells) rfl (spsCells_len l) HSRC8.out HONE.out hmm hml hz8 ?_; intro v4 w10 hown4 hgrow4 hwh4; rw [Nat.zero_add, List.nil_append] at hown4; obtain ⟨g4, c4, rfl, hg4a, hg4b, hfz4, hcc4, hsp4⟩ := owns_spans_full hown4 hlt0; have HSP4 := Lib.hid hsp4; have q42 := (hsp4 _ hIlt).2.2.1; have q43 := (hsp4 _ hIlt).2.2.2; simp only [Nat.zero_add, hSI] at q42 q43; have f42 := hfz4 ((wh % (l.length : Int)).toNat * 4 + 2); have f43 := hfz4 ((wh % (l.length : Int)).toNat * 4 + 3); have HGR4 := Lib.hid hgrow4; have HFZ4 := Lib.hid hfz4; clear hown4 hgrow4 hwh4 hsp4 hfz4)
                  have hsw := spans_set (x := SI.lo - lw % 24) (y := SI.hi + hg % 24) HSP4.out hIlt
                  simp only [hSI] at hsw
                  have hc4 : Chg (fun _ => False) w8 w10 := HC9.out.trans (Chg.of_grownRow HGR4.out) (fun kk hk => .inr (by simp [Value.ownBlock] at hk; omega))
                  have HCW : Hid (Chg (fun _ => False) w ((w10.setCell ⟨g4, (wh % (l.length : Int)).toNat * 4 + 2, none⟩ (.int .i64 (SI.lo - lw % 24))).setCell ⟨g4, (wh % (l.length : Int)).toNat * 4 + 3, none⟩ (.int .i64 (SI.hi + hg % 24)))) := Lib.hid (HC8.out.trans ((hc4.setCell (a := ⟨g4, (wh % (l.length : Int)).toNat * 4 + 2, none⟩) (.inr hg4a) _).setCell (a := ⟨g4, (wh % (l.length : Int)).toNat * 4 + 3, none⟩) (.inr hg4a) _) (fun _ x => x.elim))
                  have HSW := Lib.hid hsw
                  clear hsw hc4 HGR4 HFZ4 q42 q43 f42 f43 HSP4
                  generalize ((w10.setCell ⟨g4, (wh % (l.length : Int)).toNat * 4 + 2, none⟩ (.int .i64 (SI.lo - lw % 24))).setCell ⟨g4, (wh % (l.length : Int)).toNat * 4 + 3, none⟩ (.int .i64 (SI.hi + hg % 24))) = wz at HCW HSW ⊢
                  obtain ⟨Z, hZ⟩ : ∃ Z, l.set (wh % (l.length : Int)).toNat ⟨SI.src, SI.dst, SI.lo - lw % 24, SI.hi + hg % 24⟩ = Z := ⟨_, rfl⟩
                  rw [hZ] at HSW
                  have hZl : Z.length = l.length := by rw [← hZ, List.length_set]
                  have hcl := spans_any T N Z (some ⟨g4, 0, none⟩) c4 wz g4 0 HSW.out (.inr rfl)
                  rw [hZl] at hcl
                  refine hcl.mono ?_
                  clear hcl
                  rintro e w11 ⟨rfl, x9, rfl⟩
                  have HC11 := Lib.hid (HCW.out.grow x9)
                  have HSZ := Lib.hid (HSW.out.chg ((Chg.refl (fun _ => False) wz).grow x9) (fun x => x))
                  generalize wz.grow x9 = w11 at HC11 HSZ ⊢
                  by_cases hz0 : spansE T N Z = 0
                  · rw [hz0]
                    have hvz := valid_of hz0
                    have hpz := plansE_few hz0 (by have := HFEW.out Z; omega)
                    obtain ⟨K3, hK3⟩ : ∃ K3, (plans T N Z).length = K3 := ⟨_, rfl⟩
                    rw [hK3] at hpz
                    have hle3 : K ≤ K3 := by
                      rw [← hK3, ← HK.out, ← hZ]
                      have hmem : (⟨SI.src, SI.dst, SI.lo - lw % 24, SI.hi + hg % 24⟩ : Sp) ∈ Z := by rw [← hZ]; exact List.mem_set hIlt _
                      obtain ⟨_, _, _, _, _, _, _, _, h9⟩ := hvz.ok _ hmem
                      simp only [] at h9
                      have := plans_wide (i := (wh % (l.length : Int)).toNat) (a := lw % 24) (b := hg % 24) HV.out hIlt (by omega) (by omega) (by rw [hSI]; omega)
                      rw [hSI] at this
                      exact this
                    have dge : decide ((K : Int) ≤ K3) = true := by rw [decide_eq_true_eq]; omega
                    have HPZ := Lib.hid hpz; have HZL := Lib.hid hZl
                    clear hpz hZl hK3 hvz hz0 hZ hSI hIlt
                    go_wp2_with fail
                    have hcl := Plans_any T N Z (some ⟨g4, 0, none⟩) c4 w11 g4 0 HSZ.out (.inr rfl)
                    rw [HZL.out, HPZ.out] at hcl
                    refine hcl.mono ?_
                    clear hcl
                    rintro e w12 ⟨rfl, hc12⟩
                    have HCX := Lib.hid (HC11.out.trans hc12 (fun _ x => x.elim))
                    clear hc12
                    go_wp2_with fail
                    refine (alive_any _).mono ?_
                    rintro e w19 ⟨rfl, hc19⟩
                    have HC19 := Lib.hid (HCX.out.trans hc19 (fun _ x => x.elim))
                    clear hc19
                    go_wp2_with fail
                    go_ret
                    exact ⟨rfl, HC19.out⟩
                  · have hqz : (spansE T N Z != 0) = true := by simpa using hz0
                    have HCX := HC11
                    clear hz0
                    go_wp2_with fail
                    refine (alive_any _).mono ?_
                    rintro e w19 ⟨rfl, hc19⟩
                    have HC19 := Lib.hid (HCX.out.trans hc19 (fun _ x => x.elim))
                    clear hc19
                    go_wp2_with fail
                    go_ret
                    exact ⟨rfl, HC19.out⟩
              · have dhi : (m.hi == m.lo + T - 1) = false := by rw [beq_eq_false_iff_ne]; exact hhi
                by_cases hl0 : l.length = 0
                · have dl0 : ((l.length : Int) == 0) = true := by rw [beq_iff_eq]; omega
                  have HCX := HC8
                  clear hl0
                  go_wp2_with fail
                  refine (alive_any _).mono ?_
                  rintro e w9 ⟨rfl, hc9⟩
                  have HC9 := Lib.hid (HCX.out.trans hc9 (fun _ x => x.elim))
                  clear hc9
                  go_wp2_with fail
                  go_ret
                  exact ⟨rfl, HC9.out⟩
                · have dl0 : ((l.length : Int) == 0) = false := by rw [beq_eq_false_iff_ne]; omega
                  have hlt0 : 0 < l.length := by omega
                  have hI0 : 0 ≤ wh % (l.length : Int) := Int.emod_nonneg _ (by omega)
                  have hI1 : wh % (l.length : Int) < l.length := Int.emod_lt_of_pos _ (by omega)
                  have hIlt : (wh % (l.length : Int)).toNat < l.length := by omega
                  obtain ⟨SI, hSI⟩ : ∃ SI, l[(wh % (l.length : Int)).toNat]'hIlt = SI := ⟨_, rfl⟩
                  obtain ⟨_, _, _, _, _, hlo1, hlo2, hlh, hhi2⟩ := HV.out.ok SI (hSI ▸ List.getElem_mem hIlt)
                  have HE8 : Hid (Blk (w8.alloc (Obj.cells #[] 32)) w8.heap.size 32 []) := Lib.hid (Blk.new w8 #[] 32)
                  have HC9 : Hid (Chg (fun _ => False) w8 (w8.alloc (Obj.cells #[] 32))) := Lib.hid ((Chg.refl _ w8).alloc _)
                  have HSRC8 : Hid (l.length = 0 ∨ ∃ a', a = some a' ∧ ∀ j u, (l.flatMap spCells)[j]? = some u → (w8.alloc (Obj.cells #[] 32)).cell? (a'.add j) = some u) := Lib.hid (.inr ⟨_, HA.out.resolve_left (by intro h; rw [h] at hlt0; simp at hlt0), fun j u hu => by rw [add_plain]; exact spans_cell (HS.out.chg (HC8.out.trans HC9.out (fun _ x => x.elim)) (fun x => x)) hu⟩)
                  have hmm : 0 + l.length ≤ maxLen := by simp [maxLen]; omega
                  have hml : (0 + l.length) * 32 ≤ 140737488355328 := by omega
                  have hz8 : w8.heap.size ≤ (w8.alloc (Obj.cells #[] 32)).heap.size := by simp
                  clear hl0
                  go_wp2_with (at_builtin; refine wpList_append_all rfl (.tmp 108) (.tmp 109) 22 rfl w8.heap.size 32 j0 _ 4 32 Try.underlying22 HJ0.out HY0.out HY1.out HY2.out rfl (by decide) (.slice (some ⟨w8.heap.size, 0, none⟩) 0 0) 0 [] rfl (owns_empty HE8.out (Nat.le_refl _)) a l.length cap (l.flatMap spCells) rfl (spsCells_len l) HSRC8.out HONE.out hmm hml hz8 ?_; intro v4 w10 hown4 hgrow4 hwh4; rw [Nat.zero_add, List.nil_append] at hown4; obtain ⟨g4, c4, rfl, hg4a, hg4b, hfz4, hcc4, hsp4⟩ := owns_spans_full hown4 hlt0; have HSP4 := Lib.hid hsp4; have q42 := (hsp4 _ hIlt).2.2.1; have q43 := (hsp4 _ hIlt).2.2.2; simp only [Nat.zero_add, hSI] at q42 q43; have f42 := hfz4 ((wh % (l.length : Int)).toNat * 4 + 2); have f43 := hfz4 ((wh % (l.length : Int)).toNat * 4 + 3); have HGR4 := Lib.hid hgrow4; have HFZ4 := Lib.hid hfz4; clear hown4 hgrow4 hwh4 hsp4 hfz4)
                  have hsw := spans_set (x := SI.lo - lw % 24) (y := SI.hi + hg % 24) HSP4.out hIlt
                  simp only [hSI] at hsw
                  have hc4 : Chg (fun _ => False) w8 w10 := HC9.out.trans (Chg.of_grownRow HGR4.out) (fun kk hk => .inr (by simp [Value.ownBlock] at hk; omega))
                  have HCW : Hid (Chg (fun _ => False) w ((w10.setCell ⟨g4, (wh % (l.length : Int)).toNat * 4 + 2, none⟩ (.int .i64 (SI.lo - lw % 24))).setCell ⟨g4, (wh % (l.length : Int)).toNat * 4 + 3, none⟩ (.int .i64 (SI.hi + hg % 24)))) := Lib.hid (HC8.out.trans ((hc4.setCell (a := ⟨g4, (wh % (l.length : Int)).toNat * 4 + 2, none⟩) (.inr hg4a) _).setCell (a := ⟨g4, (wh % (l.length : Int)).toNat * 4 + 3, none⟩) (.inr hg4a) _) (fun _ x => x.elim))
                  have HSW := Lib.hid hsw
                  clear hsw hc4 HGR4 HFZ4 q42 q43 f42 f43 HSP4
                  generalize ((w10.setCell ⟨g4, (wh % (l.length : Int)).toNat * 4 + 2, none⟩ (.int .i64 (SI.lo - lw % 24))).setCell ⟨g4, (wh % (l.length : Int)).toNat * 4 + 3, none⟩ (.int .i64 (SI.hi + hg % 24))) = wz at HCW HSW ⊢
                  obtain ⟨Z, hZ⟩ : ∃ Z, l.set (wh % (l.length : Int)).toNat ⟨SI.src, SI.dst, SI.lo - lw % 24, SI.hi + hg % 24⟩ = Z := ⟨_, rfl⟩
                  rw [hZ] at HSW
                  have hZl : Z.length = l.length := by rw [← hZ, List.length_set]
                  have hcl := spans_any T N Z (some ⟨g4, 0, none⟩) c4 wz g4 0 HSW.out (.inr rfl)
                  rw [hZl] at hcl
                  refine hcl.mono ?_
                  clear hcl
                  rintro e w11 ⟨rfl, x9, rfl⟩
                  have HC11 := Lib.hid (HCW.out.grow x9)
                  have HSZ := Lib.hid (HSW.out.chg ((Chg.refl (fun _ => False) wz).grow x9) (fun x => x))
                  generalize wz.grow x9 = w11 at HC11 HSZ ⊢
                  by_cases hz0 : spansE T N Z = 0
                  · rw [hz0]
                    have hvz := valid_of hz0
                    have hpz := plansE_few hz0 (by have := HFEW.out Z; omega)
                    obtain ⟨K3, hK3⟩ : ∃ K3, (plans T N Z).length = K3 := ⟨_, rfl⟩
                    rw [hK3] at hpz
                    have hle3 : K ≤ K3 := by
                      rw [← hK3, ← HK.out, ← hZ]
                      have hmem : (⟨SI.src, SI.dst, SI.lo - lw % 24, SI.hi + hg % 24⟩ : Sp) ∈ Z := by rw [← hZ]; exact List.mem_set hIlt _
                      obtain ⟨_, _, _, _, _, _, _, _, h9⟩ := hvz.ok _ hmem
                      simp only [] at h9
                      have := plans_wide (i := (wh % (l.length : Int)).toNat) (a := lw % 24) (b := hg % 24) HV.out hIlt (by omega) (by omega) (by rw [hSI]; omega)
                      rw [hSI] at this
                      exact this
                    have dge : decide ((K : Int) ≤ K3) = true := by rw [decide_eq_true_eq]; omega
                    have HPZ := Lib.hid hpz; have HZL := Lib.hid hZl
                    clear hpz hZl hK3 hvz hz0 hZ hSI hIlt
                    go_wp2_with fail
                    have hcl := Plans_any T N Z (some ⟨g4, 0, none⟩) c4 w11 g4 0 HSZ.out (.inr rfl)
                    rw [HZL.out, HPZ.out] at hcl
                    refine hcl.mono ?_
                    clear hcl
                    rintro e w12 ⟨rfl, hc12⟩
                    have HCX := Lib.hid (HC11.out.trans hc12 (fun _ x => x.elim))
                    clear hc12
                    go_wp2_with fail
                    refine (alive_any _).mono ?_
                    rintro e w19 ⟨rfl, hc19⟩
                    have HC19 := Lib.hid (HCX.out.trans hc19 (fun _ x => x.elim))
                    clear hc19
                    go_wp2_with fail
                    go_ret
                    exact ⟨rfl, HC19.out⟩
                  · have hqz : (spansE T N Z != 0) = true := by simpa using hz0
                    have HCX := HC11
                    clear hz0
                    go_wp2_with fail
                    refine (alive_any _).mono ?_
                    rintro e w19 ⟨rfl, hc19⟩
                    have HC19 := Lib.hid (HCX.out.trans hc19 (fun _ x => x.elim))
                    clear hc19
                    go_wp2_with fail
                    go_ret
                    exact ⟨rfl, HC19.out⟩
            · have hqf : (spansE T N Q == 0) = false := by simpa using hqs
              clear hqs
              by_cases hl0 : l.length = 0
              · have dl0 : ((l.length : Int) == 0) = true := by rw [beq_iff_eq]; omega
                have HCX := HC8
                clear hl0
                go_wp2_with fail
                refine (alive_any _).mono ?_
                rintro e w9 ⟨rfl, hc9⟩
                have HC9 := Lib.hid (HCX.out.trans hc9 (fun _ x => x.elim))
                clear hc9
                go_wp2_with fail
                go_ret
                exact ⟨rfl, HC9.out⟩
              · have dl0 : ((l.length : Int) == 0) = false := by rw [beq_eq_false_iff_ne]; omega
                have hlt0 : 0 < l.length := by omega
                have hI0 : 0 ≤ wh % (l.length : Int) := Int.emod_nonneg _ (by omega)
                have hI1 : wh % (l.length : Int) < l.length := Int.emod_lt_of_pos _ (by omega)
                have hIlt : (wh % (l.length : Int)).toNat < l.length := by omega
                obtain ⟨SI, hSI⟩ : ∃ SI, l[(wh % (l.length : Int)).toNat]'hIlt = SI := ⟨_, rfl⟩
                obtain ⟨_, _, _, _, _, hlo1, hlo2, hlh, hhi2⟩ := HV.out.ok SI (hSI ▸ List.getElem_mem hIlt)
                have HE8 : Hid (Blk (w8.alloc (Obj.cells #[] 32)) w8.heap.size 32 []) := Lib.hid (Blk.new w8 #[] 32)
                have HC9 : Hid (Chg (fun _ => False) w8 (w8.alloc (Obj.cells #[] 32))) := Lib.hid ((Chg.refl _ w8).alloc _)
                have HSRC8 : Hid (l.length = 0 ∨ ∃ a', a = some a' ∧ ∀ j u, (l.flatMap spCells)[j]? = some u → (w8.alloc (Obj.cells #[] 32)).cell? (a'.add j) = some u) := Lib.hid (.inr ⟨_, HA.out.resolve_left (by intro h; rw [h] at hlt0; simp at hlt0), fun j u hu => by rw [add_plain]; exact spans_cell (HS.out.chg (HC8.out.trans HC9.out (fun _ x => x.elim)) (fun x => x)) hu⟩)
                have hmm : 0 + l.length ≤ maxLen := by simp [maxLen]; omega
                have hml : (0 + l.length) * 32 ≤ 140737488355328 := by omega
                have hz8 : w8.heap.size ≤ (w8.alloc (Obj.cells #[] 32)).heap.size := by simp
                clear hl0
                go_wp2_with (at_builtin; refine wpList_append_all rfl (.tmp 108) (.tmp 109) 22 rfl w8.heap.size 32 j0 _ 4 32 Try.underlying22 HJ0.out HY0.out HY1.out HY2.out rfl (by decide) (.slice (some ⟨w8.heap.size, 0, none⟩) 0 0) 0 [] rfl (owns_empty HE8.out (Nat.le_refl _)) a l.length cap (l.flatMap spCells) rfl (spsCells_len l) HSRC8.out HONE.out hmm hml hz8 ?_; intro v4 w10 hown4 hgrow4 hwh4; rw [Nat.zero_add, List.nil_append] at hown4; obtain ⟨g4, c4, rfl, hg4a, hg4b, hfz4, hcc4, hsp4⟩ := owns_spans_full hown4 hlt0; have HSP4 := Lib.hid hsp4; have q42 := (hsp4 _ hIlt).2.2.1; have q43 := (hsp4 _ hIlt).2.2.2; simp only [Nat.zero_add, hSI] at q42 q43; have f42 := hfz4 ((wh % (l.length : Int)).toNat * 4 + 2); have f43 := hfz4 ((wh % (l.length : Int)).toNat * 4 + 3); have HGR4 := Lib.hid hgrow4; have HFZ4 := Lib.hid hfz4; clear hown4 hgrow4 hwh4 hsp4 hfz4)
                have hsw := spans_set (x := SI.lo - lw % 24) (y := SI.hi + hg % 24) HSP4.out hIlt
                simp only [hSI] at hsw
                have hc4 : Chg (fun _ => False) w8 w10 := HC9.out.trans (Chg.of_grownRow HGR4.out) (fun kk hk => .inr (by simp [Value.ownBlock] at hk; omega))
                have HCW : Hid (Chg (fun _ => False) w ((w10.setCell ⟨g4, (wh % (l.length : Int)).toNat * 4 + 2, none⟩ (.int .i64 (SI.lo - lw % 24))).setCell ⟨g4, (wh % (l.length : Int)).toNat * 4 + 3, none⟩ (.int .i64 (SI.hi + hg % 24)))) := Lib.hid (HC8.out.trans ((hc4.setCell (a := ⟨g4, (wh % (l.length : Int)).toNat * 4 + 2, none⟩) (.inr hg4a) _).setCell (a := ⟨g4, (wh % (l.length : Int)).toNat * 4 + 3, none⟩) (.inr hg4a) _) (fun _ x => x.elim))
                have HSW := Lib.hid hsw
                clear hsw hc4 HGR4 HFZ4 q42 q43 f42 f43 HSP4
                generalize ((w10.setCell ⟨g4, (wh % (l.length : Int)).toNat * 4 + 2, none⟩ (.int .i64 (SI.lo - lw % 24))).setCell ⟨g4, (wh % (l.length : Int)).toNat * 4 + 3, none⟩ (.int .i64 (SI.hi + hg % 24))) = wz at HCW HSW ⊢
                obtain ⟨Z, hZ⟩ : ∃ Z, l.set (wh % (l.length : Int)).toNat ⟨SI.src, SI.dst, SI.lo - lw % 24, SI.hi + hg % 24⟩ = Z := ⟨_, rfl⟩
                rw [hZ] at HSW
                have hZl : Z.length = l.length := by rw [← hZ, List.length_set]
                have hcl := spans_any T N Z (some ⟨g4, 0, none⟩) c4 wz g4 0 HSW.out (.inr rfl)
                rw [hZl] at hcl
                refine hcl.mono ?_
                clear hcl
                rintro e w11 ⟨rfl, x9, rfl⟩
                have HC11 := Lib.hid (HCW.out.grow x9)
                have HSZ := Lib.hid (HSW.out.chg ((Chg.refl (fun _ => False) wz).grow x9) (fun x => x))
                generalize wz.grow x9 = w11 at HC11 HSZ ⊢
                by_cases hz0 : spansE T N Z = 0
                · rw [hz0]
                  have hvz := valid_of hz0
                  have hpz := plansE_few hz0 (by have := HFEW.out Z; omega)
                  obtain ⟨K3, hK3⟩ : ∃ K3, (plans T N Z).length = K3 := ⟨_, rfl⟩
                  rw [hK3] at hpz
                  have hle3 : K ≤ K3 := by
                    rw [← hK3, ← HK.out, ← hZ]
                    have hmem : (⟨SI.src, SI.dst, SI.lo - lw % 24, SI.hi + hg % 24⟩ : Sp) ∈ Z := by rw [← hZ]; exact List.mem_set hIlt _
                    obtain ⟨_, _, _, _, _, _, _, _, h9⟩ := hvz.ok _ hmem
                    simp only [] at h9
                    have := plans_wide (i := (wh % (l.length : Int)).toNat) (a := lw % 24) (b := hg % 24) HV.out hIlt (by omega) (by omega) (by rw [hSI]; omega)
                    rw [hSI] at this
                    exact this
                  have dge : decide ((K : Int) ≤ K3) = true := by rw [decide_eq_true_eq]; omega
                  have HPZ := Lib.hid hpz; have HZL := Lib.hid hZl
                  clear hpz hZl hK3 hvz hz0 hZ hSI hIlt
                  go_wp2_with fail
                  have hcl := Plans_any T N Z (some ⟨g4, 0, none⟩) c4 w11 g4 0 HSZ.out (.inr rfl)
                  rw [HZL.out, HPZ.out] at hcl
                  refine hcl.mono ?_
                  clear hcl
                  rintro e w12 ⟨rfl, hc12⟩
                  have HCX := Lib.hid (HC11.out.trans hc12 (fun _ x => x.elim))
                  clear hc12
                  go_wp2_with fail
                  refine (alive_any _).mono ?_
                  rintro e w19 ⟨rfl, hc19⟩
                  have HC19 := Lib.hid (HCX.out.trans hc19 (fun _ x => x.elim))
                  clear hc19
                  go_wp2_with fail
                  go_ret
                  exact ⟨rfl, HC19.out⟩
                · have hqz : (spansE T N Z != 0) = true := by simpa using hz0
                  have HCX := HC11
                  clear hz0
                  go_wp2_with fail
                  refine (alive_any _).mono ?_
                  rintro e w19 ⟨rfl, hc19⟩
                  have HC19 := Lib.hid (HCX.out.trans hc19 (fun _ x => x.elim))
                  clear hc19
                  go_wp2_with fail
                  go_ret
                  exact ⟨rfl, HC19.out⟩
        · have d20 : decide (20 ≤ (l.length : Int)) = true := by rw [decide_eq_true_eq]; omega
          have HCX := HC1
          clear h20
          go_wp2_with fail
          refine (alive_any _).mono ?_
          rintro e w19 ⟨rfl, hc19⟩
          have HC19 := Lib.hid (HCX.out.trans hc19 (fun _ x => x.elim))
          clear hc19
          go_wp2_with fail
          go_ret
          exact ⟨rfl, HC19.out⟩
      · have hq : (spansE t n l != 0) = true := by simpa using h0
        have HCX := HC1
        clear h0
        go_wp2_with fail
        refine (alive_any _).mono ?_
        rintro e w9 ⟨rfl, hc9⟩
        have HC9 := Lib.hid (HCX.out.trans hc9 (fun _ x => x.elim))
        clear hc9
        go_wp2_with fail
        go_ret
        exact ⟨rfl, HC9.out⟩
  · have d40 : decide (l.length ≤ 40 ∧ 0 ≤ 40 ∧ 0 ≤ 40) = false := by rw [decide_eq_false_iff_not]; omega
    clear hf
    go_enter Try.func4, Try.ntmps4
    go_wp2_with fail
    have HCX := Lib.hid ((Chg.refl (fun _ => False) w).alloc (Obj.cells #[.int .i64 m.src, .int .i64 m.dst, .int .i64 m.lo, .int .i64 m.hi] 32))
    generalize (w.alloc (Obj.cells #[.int .i64 m.src, .int .i64 m.dst, .int .i64 m.lo, .int .i64 m.hi] 32)) = w0 at HCX ⊢
    refine (few_any a none none l.length 0 0 cap 0 0 w0).mono ?_
    rw [d40]
    rintro e w' ⟨rfl, rfl⟩
    go_wp2_with fail
    refine (alive_any _).mono ?_
    rintro e w9 ⟨rfl, hc9⟩
    have HC9 := Lib.hid (HCX.out.trans hc9 (fun _ x => x.elim))
    clear hc9
    go_wp2_with fail
    go_ret
    exact ⟨rfl, HC9.out⟩
end Go.Proofs.Ytgamekcjjpjnnaa
