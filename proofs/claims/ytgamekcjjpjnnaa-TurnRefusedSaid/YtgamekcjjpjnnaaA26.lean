/- The reference's IsPlan, Is and Slack, walked. Their conditions are their premises. -/
import Derived.Test.YtgamekcjjpjnnaaA25
set_option linter.unusedVariables false
namespace Go.Proofs.Ytgamekcjjpjnnaa
open Go.RowKit

set_option maxRecDepth 100000 in
theorem IsPlan_any (l : List Sp) (a : Option Addr) (cap b off : Nat) (X : List Int) (ar : Option Addr) (c br bo : Nat) (T N : Int) (w : World) (hv : Valid T N l) (hs : SpansAt w b off l) (ha : l = [] ∨ a = some ⟨b, off, none⟩)
    (hX : IntsAt w br bo X) (har : X = [] ∨ ar = some ⟨br, bo, none⟩) (hl : X.length ≤ 1000) :
    Calls Try.prog 61 #[.int .i64 T, .int .i64 N, .slice a l.length cap, .slice ar X.length c] w (BPost (planP T N l X) w) := by
  have HV := Lib.hid hv; have HS := Lib.hid hs; have HA := Lib.hid ha; have HX := Lib.hid hX; have HAR := Lib.hid har
  clear hv hs ha hX har
  go_enter Try.func61, Try.ntmps61
  go_wp2_with fail
  refine (Hours_any T N X ar c br bo w HX.out HAR.out hl).mono ?_
  rintro e w1 ⟨b1, rfl, hb1, hc1⟩
  have HL := Lib.hid hb1; have HC1 := Lib.hid hc1
  clear hb1 hc1
  cases b1 with
  | false =>
    go_wp2_with fail
    go_ret
    exact ⟨false, rfl, ⟨fun h => (by cases h), fun h => HL.out.2 h.1⟩, HC1.out⟩
  | true =>
    have hH := HL.out.1 rfl
    have hn1 := HV.out.n1
    have hlen := hH.1
    have hne : ar = some ⟨br, bo, none⟩ := HAR.out.resolve_left (by intro h; rw [h] at hlen; simp at hlen; omega)
    subst hne
    have g2 := HX.out.chg HC1.out (fun x => x) 0 (by omega)
    rw [hr_get, Nat.add_zero] at g2
    obtain ⟨x0, hx0⟩ : ∃ x0, hr X 0 = x0 := ⟨_, rfl⟩
    rw [hx0] at g2
    have HX0 := Lib.hid hx0; have HH := Lib.hid hH
    have hxl : 0 < X.length := by omega
    clear hx0 hH hlen hn1
    by_cases hz : x0 = 0
    · have dz : (x0 == 0) = true := by simpa using hz
      have HZ := Lib.hid hz
      clear hz
      go_wp2_with fail
      refine (kept_any l a cap b off X c br bo T N w1 HV.out (HS.out.chg HC1.out (fun x => x)) HA.out (HX.out.chg HC1.out (fun x => x)) HH.out).mono ?_
      rintro e w2 ⟨b2, rfl, hb2, hc2⟩
      have HB2 := Lib.hid hb2; have HC2 := Lib.hid (HC1.out.trans hc2 (fun _ x => x.elim))
      clear hb2 hc2 g2
      go_wp2_with fail
      go_ret
      refine ⟨b2, rfl, ?_, HC2.out⟩
      rw [HB2.out]
      unfold planP
      exact ⟨fun h => ⟨HH.out, by rw [HX0.out]; exact HZ.out, h⟩, fun h => h.2.2⟩
    · have dz : (x0 == 0) = false := by simpa using hz
      have HZ := Lib.hid hz
      clear hz
      go_wp2_with fail
      go_ret
      exact ⟨false, rfl, ⟨fun h => (by cases h), fun h => absurd (by have := h.2.1; rwa [HX0.out] at this) HZ.out⟩, HC1.out⟩

set_option maxRecDepth 100000 in
theorem rIs_any (t n : Int) (l : List Sp) (a : Option Addr) (cap b off : Nat) (X : List Int) (ar : Option Addr) (c br bo : Nat) (w : World) (hs : SpansAt w b off l) (ha : l = [] ∨ a = some ⟨b, off, none⟩)
    (hX : IntsAt w br bo X) (har : X = [] ∨ ar = some ⟨br, bo, none⟩) (hl : X.length ≤ 1000) :
    Calls Try.prog 31 #[.int .i64 t, .int .i64 n, .slice a l.length cap, .slice ar X.length c] w (IsPost t n l X w) := by
  have HS := Lib.hid hs; have HA := Lib.hid ha; have HX := Lib.hid hX; have HAR := Lib.hid har
  clear hs ha hX har
  go_enter Try.func31, Try.ntmps31
  go_wp2_with fail
  refine (spans_any t n l a cap w b off HS.out HA.out).mono ?_
  rintro e w' ⟨rfl, x, rfl⟩
  have HC := Lib.hid (grow_chg w x)
  generalize w.grow x = W at HC ⊢
  by_cases h0 : spansE t n l = 0
  · have H0 := Lib.hid h0; have HV := Lib.hid (valid_of h0)
    rw [h0]
    clear h0
    go_wp2_with fail
    refine (IsPlan_any l a cap b off X ar c br bo t n W HV.out (HS.out.chg HC.out (fun x => x)) HA.out (HX.out.chg HC.out (fun x => x)) HAR.out hl).mono ?_
    rintro e w1 ⟨b1, rfl, hb1, hc1⟩
    have HB1 := Lib.hid hb1; have HC1 := Lib.hid (HC.out.trans hc1 (fun _ x => x.elim))
    clear hb1 hc1
    go_wp2_with fail
    go_ret2
    exact isPost_ok H0.out HB1.out HC1.out
  · have hq : (spansE t n l != 0) = true := by simpa using h0
    have H0 := Lib.hid h0; clear h0
    go_wp2_with fail
    go_ret2
    exact isPost_err H0.out HC.out

set_option maxRecDepth 100000 in
set_option maxHeartbeats 1000000 in
theorem rSlack_any (t n : Int) (l : List Sp) (a : Option Addr) (cap b off : Nat) (X : List Int) (ar : Option Addr) (c br bo : Nat) (w : World) (hs : SpansAt w b off l) (ha : l = [] ∨ a = some ⟨b, off, none⟩)
    (hX : IntsAt w br bo X) (har : X = [] ∨ ar = some ⟨br, bo, none⟩) (hl : X.length ≤ 1000) :
    Calls Try.prog 33 #[.int .i64 t, .int .i64 n, .slice a l.length cap, .slice ar X.length c] w (LPost (slackE t n l X) w) := by
  obtain ⟨i0, hi0, hz0, hz1, hz2⟩ := info_parts info3
  have HI0 := Lib.hid hi0; have HZ0 := Lib.hid hz0; have HZ1 := Lib.hid hz1; have HZ2 := Lib.hid hz2
  have HS := Lib.hid hs; have HA := Lib.hid ha; have HX := Lib.hid hX; have HAR := Lib.hid har
  clear hi0 hz0 hz1 hz2 hs ha hX har
  go_enter Try.func33, Try.ntmps33
  go_wp2_with fail
  refine (spans_any t n l a cap w b off HS.out HA.out).mono ?_
  rintro e w' ⟨rfl, x, rfl⟩
  have HC := Lib.hid (grow_chg w x)
  generalize w.grow x = W at HC ⊢
  by_cases h0 : spansE t n l = 0
  · have H0 := Lib.hid h0; have HV := Lib.hid (valid_of h0)
    rw [h0]
    have hl20 := (valid_of h0).len
    clear h0
    go_wp2_with fail
    refine (Hours_any t n X ar c br bo W (HX.out.chg HC.out (fun x => x)) HAR.out hl).mono ?_
    rintro e w1 ⟨b1, rfl, hb1, hc1⟩
    have HL := Lib.hid hb1; have HC1 := Lib.hid (HC.out.trans hc1 (fun _ x => x.elim))
    clear hb1 hc1
    cases b1 with
    | false =>
      have HE := Lib.hid (slackE_bad H0.out (show ¬ inHours t n X from fun h => by have := HL.out.2 h; cases this))
      go_wp2_with fail
      go_ret2
      rw [HE.out]
      exact .nil HC1.out
    | true =>
      have hH := HL.out.1 rfl
      have HE := Lib.hid (slackE_ok H0.out hH)
      have hn1 := HV.out.n1
      have hlen := hH.1
      have hne : ar = some ⟨br, bo, none⟩ := HAR.out.resolve_left (by intro h; rw [h] at hlen; simp at hlen; omega)
      subst hne
      have HH := Lib.hid hH
      clear hH hlen hn1
      go_wp2_with fail
      go_loopg [11, 12] l.length (fun g v iv wr => ∃ i : Nat, i ≤ l.length ∧ g = l.length - i ∧ iv = .int .i64 i ∧ wr.ownsRow w.heap.size 3 1 v i (((l.take i).map fun s => slackV t s X).map (Value.int .i64)) ∧ Chg (fun _ => False) w wr)
      case atStart => exact ⟨0, by omega, by omega, rfl, World.ownsRow_nil _ _ _ _, HC1.out⟩
      case round =>
        obtain ⟨i, hi, rfl, rfl, hown, hcg⟩ := hrel
        have HOWN := Lib.hid hown; have HCG := Lib.hid hcg
        clear hown hcg
        by_cases hlt : i < l.length
        · have hne : a = some ⟨b, off, none⟩ := HA.out.resolve_left (by intro h; simp [h] at hlt)
          subst hne
          obtain ⟨c0, c1, c2, c3⟩ := HS.out.chg HCG.out (fun x => x) i hlt
          have HTK := Lib.hid (List.take_succ_eq_append_getElem hlt)
          obtain ⟨s, hs⟩ : ∃ s, l[i] = s := ⟨_, rfl⟩
          have hok := HV.out.ok _ (List.getElem_mem hlt)
          rw [hs] at c0 c1 c2 c3 hok
          have HSS := Lib.hid hs
          clear hs
          have hlen := HH.out.1
          have hn2 := HV.out.n2
          have ht1 := HV.out.t1
          have ht2 := HV.out.t2
          have hx := inHours_hr HH.out (i := s.src.toNat) (by omega)
          have hy := inHours_hr HH.out (i := s.dst.toNat) (by omega)
          have hXw := HX.out.chg HCG.out (fun x => x)
          have hcx := hXw s.src.toNat (by omega)
          have hcy := hXw s.dst.toNat (by omega)
          rw [hr_get] at hcx hcy
          obtain ⟨x, hxx⟩ : ∃ x, hr X s.src.toNat = x := ⟨_, rfl⟩
          obtain ⟨y, hyy⟩ : ∃ y, hr X s.dst.toNat = y := ⟨_, rfl⟩
          rw [hxx] at hx hcx
          rw [hyy] at hy hcy
          have hkx : s.src < X.length := by omega
          have hky : s.dst < X.length := by omega
          have hsb := slackV_bounds ht1 s X
          obtain ⟨q, hq⟩ : ∃ q, slackV t s X = q := ⟨_, rfl⟩
          have HSV := Lib.hid (show (y - x - s.lo) % t = q by rw [← hq]; unfold slackV; rw [hxx, hyy])
          rw [hq] at hsb
          have HQ := Lib.hid hq
          have HCX := Lib.hid hcx; have HCY := Lib.hid hcy
          have HLEN := Lib.hid hlen
          clear hlen hxx hyy hXw hcx hcy hq
          go_wp2_with fail
          refine (rslack_any t s.src s.dst s.lo s.hi x y br bo X.length c _ ht1 (by omega) (by omega) (by omega) (by omega) (by omega) hkx hky (by have := HLEN.out; omega) (by omega) (by omega) HCX.out HCY.out).mono ?_
          rw [HSV.out]
          rintro e w' ⟨rfl, x2, rfl⟩
          have HCW := Lib.hid (grow_chg wr x2)
          clear c0 c1 c2 c3
          generalize wr.grow x2 = W2 at HCW ⊢
          have HOW := Lib.hid (owns_chg HOWN.out HCW.out)
          have HCG2 := Lib.hid (HCG.out.trans HCW.out (fun _ x => x.elim))
          have hsz5 : w.heap.size ≤ W2.heap.size := HCG2.out.size
          have HNEW : Hid (∀ j u, [Value.int .i64 q][j]? = some u → (W2.alloc (Obj.cells #[.int .i64 q] 3)).cell? ((⟨W2.heap.size, 0, none⟩ : Addr).add j) = some u) := Lib.hid (fun j u hu => by
            rw [add_plain, Nat.zero_add]
            exact (Blk.new W2 #[.int .i64 q] 3).cell_some hu)
          go_wp2_with (at_builtin; refine wpList_append_own _ rfl (.tmp 31) (.tmp 39) 25 rfl w.heap.size 3 i0 (.int .i64 0) 1 8 Try.underlying25 HI0.out HZ0.out HZ1.out HZ2.out rfl (by decide) _ i (((l.take i).map fun s => slackV t s X).map (Value.int .i64)) rfl (HOW.out.alloc _) ⟨W2.heap.size, 0, none⟩ 1 1 [.int .i64 q] rfl rfl HNEW.out (by intro u hu; simp at hu; subst hu; rfl) (by simp [maxLen]; omega) (by omega) (by simp; omega) ?_; intro v1 w1 hown1 hgrow1 _; have HOWN1 := Lib.hid hown1; have HGROW1 := Lib.hid hgrow1; clear hown1 hgrow1)
          go_roundg (l.length - (i + 1))
          case measure => omega
          case rel =>
            refine ⟨i + 1, by omega, rfl, by go_num, ?_, ?_⟩
            · rw [HTK.out, HSS.out, List.map_append, List.map_append, List.map_singleton, List.map_singleton, HQ.out]; exact HOWN1.out
            · exact (HCG2.out.alloc _).trans (Chg.of_grownRow HGROW1.out) (fun kk hk => .inr ((HOW.out.lt kk hk.symm).1))
        · obtain rfl : i = l.length := by omega
          have how := HOWN.out
          rw [List.take_length] at how
          obtain ⟨L, hL⟩ : ∃ L, (l.map fun s => slackV t s X) = L := ⟨_, rfl⟩
          rw [hL] at how
          have HL3 := Lib.hid hL
          obtain ⟨ao, g, c', rfl, h1, h2, h3⟩ := owns_list how
          have H1 := Lib.hid h1; have H2 := Lib.hid h2
          clear h1 h2 how HOWN hL
          go_wp2_with fail
          go_ret2
          rw [HE.out, HL3.out]
          exact ⟨ao, c', g, rfl, H1.out, H2.out, HCG.out⟩
  · have hq : (spansE t n l != 0) = true := by simpa using h0
    have H0 := Lib.hid (slackE_err (X := X) h0); clear h0
    go_wp2_with fail
    go_ret2
    rw [H0.out]
    exact .nil HC.out
end Go.Proofs.Ytgamekcjjpjnnaa
