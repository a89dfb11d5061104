/- The program's Slack, walked. Its conditions are its premises. -/
import Derived.Test.YtgamekcjjpjnnaaA23
set_option linter.unusedVariables false
namespace Go.Proofs.Ytgamekcjjpjnnaa
open Go.RowKit

/-- A list, in new memory. -/
def RowPost (L : List Int) (w : World) (e : Ending) (w' : World) : Prop :=
  ∃ ao c g, e = .returned (.slice ao L.length c) ∧ (L = [] ∨ ao = some ⟨g, 0, none⟩) ∧ IntsAt w' g 0 L ∧ w.heap.size ≤ g ∧ Chg (fun _ => False) w w'

theorem owns_list {w : World} {base : Nat} {v : Value} {n : Nat} {X : List Int} (h : w.ownsRow base 3 1 v n (X.map (Value.int .i64))) :
    ∃ ao g c, v = .slice ao X.length c ∧ (X = [] ∨ ao = some ⟨g, 0, none⟩) ∧ IntsAt w g 0 X ∧ base ≤ g := by
  by_cases hX : X = []
  · subst hX
    obtain ⟨ao, c, rfl, _⟩ := owns_form h
    have hn : n = 0 := by simpa using h.1.symm
    subst hn
    exact ⟨ao, base, c, rfl, .inl rfl, fun k hk => by simp at hk, Nat.le_refl _⟩
  · obtain ⟨g, c, rfl, h1, h2, h3, _⟩ := owns_ints h hX
    exact ⟨_, g, c, rfl, .inr rfl, h3, h1⟩

theorem slackV_bounds {T : Int} (ht : 1 ≤ T) (s : Sp) (X : List Int) : 0 ≤ slackV T s X ∧ slackV T s X < T := by
  unfold slackV
  exact ⟨Int.emod_nonneg _ (by omega), Int.emod_lt_of_pos _ (by omega)⟩

set_option maxRecDepth 100000 in
set_option maxHeartbeats 1000000 in
theorem slacks_any (l : List Sp) (a : Option Addr) (cap b off : Nat) (X : List Int) (ar : Option Addr) (c br bo : Nat) (T N : Int) (p : Nat) (w : World) (hv : Valid T N l) (hs : SpansAt w b off l) (ha : l = [] ∨ a = some ⟨b, off, none⟩)
    (hX : IntsAt w br bo X) (har : ar = some ⟨br, bo, none⟩) (hH : inHours T N X) (hp : PlanAt w p T N (.slice a l.length cap)) :
    Calls Try.prog 57 #[.pointer (some ⟨p, 0, none⟩), .slice ar X.length c] w (RowPost (l.map fun s => slackV T s X) w) := by
  obtain ⟨i0, hi0, hz0, hz1, hz2⟩ := info_parts info3
  have HI0 := Lib.hid hi0; have HZ0 := Lib.hid hz0; have HZ1 := Lib.hid hz1; have HZ2 := Lib.hid hz2
  subst har
  have HV := Lib.hid hv; have HS := Lib.hid hs; have HA := Lib.hid ha; have HX := Lib.hid hX; have HH := Lib.hid hH; have HP := Lib.hid hp
  have g0 := hp.2.2
  have hl20 := hv.len
  clear hi0 hz0 hz1 hz2 hv hs ha hX hH hp
  go_enter Try.func57, Try.ntmps57
  go_wp2_with fail
  clear g0
  go_loopg [5, 13] l.length (fun g v iv wr => ∃ i : Nat, i ≤ l.length ∧ g = l.length - i ∧ iv = .int .i64 i ∧ wr.ownsRow w.heap.size 3 1 v i (((l.take i).map fun s => slackV T s X).map (Value.int .i64)) ∧ Chg (fun _ => False) w wr)
  case atStart => exact ⟨0, by omega, by omega, rfl, World.ownsRow_nil _ _ _ _, Chg.refl _ w⟩
  case round =>
    obtain ⟨i, hi, rfl, rfl, hown, hcg⟩ := hrel
    have HOWN := Lib.hid hown; have HCG := Lib.hid hcg
    clear hown hcg
    by_cases hlt : i < l.length
    · have hne : a = some ⟨b, off, none⟩ := HA.out.resolve_left (by intro h; simp [h] at hlt)
      subst hne
      obtain ⟨c0, c1, c2, c3⟩ := HS.out.chg HCG.out (fun x => x) i hlt
      have HTK := Lib.hid (List.take_succ_eq_append_getElem hlt)
      obtain ⟨s, hs⟩ : ∃ s, l[i] = s := ⟨_, rfl⟩
      have hok := HV.out.ok _ (List.getElem_mem hlt)
      rw [hs] at c0 c1 c2 c3 hok
      have HSS := Lib.hid hs
      clear hs
      have hlen := HH.out.1
      have hn2 := HV.out.n2
      have ht1 := HV.out.t1
      have ht2 := HV.out.t2
      have hx := inHours_hr HH.out (i := s.src.toNat) (by omega)
      have hy := inHours_hr HH.out (i := s.dst.toNat) (by omega)
      have hXw := HX.out.chg HCG.out (fun x => x)
      have hcx := hXw s.src.toNat (by omega)
      have hcy := hXw s.dst.toNat (by omega)
      rw [hr_get] at hcx hcy
      obtain ⟨x, hxx⟩ : ∃ x, hr X s.src.toNat = x := ⟨_, rfl⟩
      obtain ⟨y, hyy⟩ : ∃ y, hr X s.dst.toNat = y := ⟨_, rfl⟩
      rw [hxx] at hx hcx
      rw [hyy] at hy hcy
      have hkx : s.src < X.length := by omega
      have hky : s.dst < X.length := by omega
      have hsb := slackV_bounds ht1 s X
      obtain ⟨q, hq⟩ : ∃ q, slackV T s X = q := ⟨_, rfl⟩
      have HSV := Lib.hid (show (y - x - s.lo) % T = q by rw [← hq]; unfold slackV; rw [hxx, hyy])
      rw [hq] at hsb
      have HQ := Lib.hid hq
      have HCX := Lib.hid hcx; have HCY := Lib.hid hcy
      have HLEN := Lib.hid hlen
      clear hlen hxx hyy hXw hcx hcy hq
      go_wp2_with fail
      have hc1 : Chg (fun _ => False) wr (wr.alloc (Obj.cells #[.int .i64 s.src, .int .i64 s.dst, .int .i64 s.lo, .int .i64 s.hi] 32)) := (Chg.refl _ wr).alloc _
      have HC1 := Lib.hid hc1
      have hpw := (HP.out.chg HCG.out (fun x => x)).1
      refine (slack_any T s.src s.dst s.lo s.hi x y p 0 br bo X.length c _ ht1 (by omega) (by omega) (by omega) (by omega) (by omega) hkx hky (by have := HLEN.out; omega) (by omega) (by omega) (hc1.cell_some hpw (fun x => x)) (hc1.cell_some HCX.out (fun x => x)) (hc1.cell_some HCY.out (fun x => x))).mono ?_
      rw [HSV.out]
      rintro e w' ⟨rfl, x2, rfl⟩
      have HCW := Lib.hid (HC1.out.grow x2)
      clear hc1 hpw c0 c1 c2 c3
      generalize (wr.alloc (Obj.cells #[.int .i64 s.src, .int .i64 s.dst, .int .i64 s.lo, .int .i64 s.hi] 32)).grow x2 = W at HCW ⊢
      have HOW := Lib.hid (owns_chg HOWN.out HCW.out)
      have HCG2 := Lib.hid (HCG.out.trans HCW.out (fun _ x => x.elim))
      have hsz5 : w.heap.size ≤ W.heap.size := HCG2.out.size
      have HNEW : Hid (∀ j u, [Value.int .i64 q][j]? = some u → (W.alloc (Obj.cells #[.int .i64 q] 3)).cell? ((⟨W.heap.size, 0, none⟩ : Addr).add j) = some u) := Lib.hid (fun j u hu => by
        rw [add_plain, Nat.zero_add]
        exact (Blk.new W #[.int .i64 q] 3).cell_some hu)
      go_wp2_with (at_builtin; refine wpList_append_own _ rfl (.tmp 17) (.tmp 22) 25 rfl w.heap.size 3 i0 (.int .i64 0) 1 8 Try.underlying25 HI0.out HZ0.out HZ1.out HZ2.out rfl (by decide) _ i (((l.take i).map fun s => slackV T s X).map (Value.int .i64)) rfl (HOW.out.alloc _) ⟨W.heap.size, 0, none⟩ 1 1 [.int .i64 q] rfl rfl HNEW.out (by intro u hu; simp at hu; subst hu; rfl) (by simp [maxLen]; omega) (by omega) (by simp; omega) ?_; intro v1 w1 hown1 hgrow1 _; have HOWN1 := Lib.hid hown1; have HGROW1 := Lib.hid hgrow1; clear hown1 hgrow1)
      go_roundg (l.length - (i + 1))
      case measure => omega
      case rel =>
        refine ⟨i + 1, by omega, rfl, by go_num, ?_, ?_⟩
        · rw [HTK.out, HSS.out, List.map_append, List.map_append, List.map_singleton, List.map_singleton, HQ.out]; exact HOWN1.out
        · exact (HCG2.out.alloc _).trans (Chg.of_grownRow HGROW1.out) (fun kk hk => .inr ((HOW.out.lt kk hk.symm).1))
    · obtain rfl : i = l.length := by omega
      have how := HOWN.out
      rw [List.take_length] at how
      obtain ⟨ao, g, c', rfl, h1, h2, h3⟩ := owns_list how
      have H1 := Lib.hid h1; have H2 := Lib.hid h2
      have hsz := HCG.out.size
      clear h1 h2 how HOWN
      go_wp2_with fail
      go_ret
      exact ⟨ao, c', g, rfl, H1.out, H2.out, h3, HCG.out⟩

/-- What Slack answers. -/
def slackE (t n : Int) (l : List Sp) (X : List Int) : List Int × Int :=
  if spansE t n l ≠ 0 then ([], spansE t n l) else if ¬ inHours t n X then ([], 2) else (l.map fun s => slackV t s X, 0)
theorem slackE_err {t n : Int} {l : List Sp} {X : List Int} (h : spansE t n l ≠ 0) : slackE t n l X = ([], spansE t n l) := by unfold slackE; rw [if_pos h]
theorem slackE_bad {t n : Int} {l : List Sp} {X : List Int} (h : spansE t n l = 0) (h2 : ¬ inHours t n X) : slackE t n l X = ([], 2) := by unfold slackE; rw [if_neg (by simpa using h), if_pos h2]
theorem slackE_ok {t n : Int} {l : List Sp} {X : List Int} (h : spansE t n l = 0) (h2 : inHours t n X) : slackE t n l X = (l.map fun s => slackV t s X, 0) := by unfold slackE; rw [if_neg (by simpa using h), if_neg (by simpa using h2)]

set_option maxRecDepth 100000 in
theorem Slack_any (t n : Int) (l : List Sp) (a : Option Addr) (cap b off : Nat) (X : List Int) (ar : Option Addr) (c br bo : Nat) (w : World) (hs : SpansAt w b off l) (ha : l = [] ∨ a = some ⟨b, off, none⟩)
    (hX : IntsAt w br bo X) (har : X = [] ∨ ar = some ⟨br, bo, none⟩) (hl : X.length ≤ 1000) :
    Calls Try.prog 32 #[.int .i64 t, .int .i64 n, .slice a l.length cap, .slice ar X.length c] w (LPost (slackE t n l X) w) := by
  have HS := Lib.hid hs; have HA := Lib.hid ha; have HX := Lib.hid hX; have HAR := Lib.hid har
  clear hs ha hX har
  go_enter Try.func32, Try.ntmps32
  go_wp2_with fail
  refine (of_any t n l a cap w b off HS.out HA.out).mono ?_
  rintro e w' ⟨⟨x, rfl⟩, ⟨h0, rfl⟩ | ⟨h0, p, rfl, hp, hsz⟩⟩
  · have hq : (spansE t n l != 0) = true := by simpa using h0
    have H0 := Lib.hid (slackE_err (X := X) h0); have HC := Lib.hid (grow_chg w x); clear h0
    go_wp2_with fail
    go_ret2
    rw [H0.out]
    exact .nil HC.out
  · have H0 := Lib.hid h0; have HV := Lib.hid (valid_of h0); have HP := Lib.hid hp; have HC := Lib.hid (grow_chg w x)
    clear h0 hp
    generalize w.grow x = W at HC HP ⊢
    go_wp2_with fail
    refine (listed_any X ar c t n (.slice a l.length cap) p br bo W (HX.out.chg HC.out (fun x => x)) hl HAR.out HP.out).mono ?_
    rintro e w1 ⟨b1, rfl, hb1, hc1⟩
    have HL := Lib.hid hb1; have HC1 := Lib.hid (HC.out.trans hc1 (fun _ x => x.elim)); have HP1 := Lib.hid (HP.out.chg hc1 (fun x => x))
    clear hb1 hc1
    cases b1 with
    | false =>
      have HE := Lib.hid (slackE_bad H0.out (show ¬ inHours t n X from fun h => by have := HL.out.2 h; cases this))
      go_wp2_with fail
      go_ret2
      rw [HE.out]
      exact .nil HC1.out
    | true =>
      have hH := HL.out.1 rfl
      obtain ⟨L, hL⟩ : ∃ L, (l.map fun s => slackV t s X) = L := ⟨_, rfl⟩
      have HL2 := Lib.hid hL
      have HE := Lib.hid (show slackE t n l X = (L, 0) by rw [← hL]; exact slackE_ok H0.out hH)
      clear hL
      have hn1 := HV.out.n1
      have hlen := hH.1
      have hne : ar = some ⟨br, bo, none⟩ := HAR.out.resolve_left (by intro h; rw [h] at hlen; simp at hlen; omega)
      have HH := Lib.hid hH; have HNE := Lib.hid hne
      clear hH hlen hne hn1
      go_wp2_with fail
      have hsl := slacks_any l a cap b off X ar c br bo t n p w1 HV.out (HS.out.chg HC1.out (fun x => x)) HA.out (HX.out.chg HC1.out (fun x => x)) HNE.out HH.out HP1.out
      rw [HL2.out] at hsl
      refine hsl.mono ?_
      rintro e w2 ⟨ao, c2, g, rfl, h1, h2, _, hc2⟩
      have H1 := Lib.hid h1; have H2 := Lib.hid h2; have HC2 := Lib.hid (HC1.out.trans hc2 (fun _ x => x.elim))
      clear h1 h2 hc2 hsl
      go_wp2_with fail
      go_ret2
      rw [HE.out]
      exact ⟨ao, c2, g, rfl, H1.out, H2.out, HC2.out⟩
end Go.Proofs.Ytgamekcjjpjnnaa
