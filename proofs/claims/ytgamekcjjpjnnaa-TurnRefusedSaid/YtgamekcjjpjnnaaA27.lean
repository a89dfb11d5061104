/- Rounds, of the program and of the reference, walked. Their conditions are their premises. -/
import Derived.Test.YtgamekcjjpjnnaaA26
import Derived.Test.YtgamekcjjpjnnaaA21
set_option linter.unusedVariables false
namespace Go.Proofs.Ytgamekcjjpjnnaa
open Go.RowKit

def rawSp (l : List Sp) (k : Int) : Sp := l.getD (k.natAbs - 1) default
/-- What a step adds. -/
def termV (T : Int) (l : List Sp) (X : List Int) (k : Int) : Int := if 0 < k then (rawSp l k).lo + slackV T (rawSp l k) X else -((rawSp l k).lo + slackV T (rawSp l k) X)
def sumT (T : Int) (l : List Sp) (X R : List Int) : Nat → Int
  | 0 => 0
  | m + 1 => sumT T l X R m + termV T l X (hr R m)

open Classical in
/-- What Rounds answers. -/
noncomputable def roundsE (t n : Int) (l : List Sp) (X R : List Int) : Int × Int :=
  if spansE t n l ≠ 0 then (0, spansE t n l) else if isRing n.toNat l R ∧ planP t n l X then ((sumT t l X R R.length).tdiv t, 0) else (0, 2)

theorem roundsE_err {t n : Int} {l : List Sp} {X R : List Int} (h : spansE t n l ≠ 0) : roundsE t n l X R = (0, spansE t n l) := by unfold roundsE; rw [if_pos h]
theorem roundsE_bad {t n : Int} {l : List Sp} {X R : List Int} (h : spansE t n l = 0) (h2 : ¬ (isRing n.toNat l R ∧ planP t n l X)) : roundsE t n l X R = (0, 2) := by unfold roundsE; rw [if_neg (by simpa using h), if_neg h2]
theorem roundsE_ok {t n : Int} {l : List Sp} {X R : List Int} (h : spansE t n l = 0) (h2 : isRing n.toNat l R ∧ planP t n l X) : roundsE t n l X R = ((sumT t l X R R.length).tdiv t, 0) := by unfold roundsE; rw [if_neg (by simpa using h), if_pos h2]

/-- Two numbers. -/
def PairPost (r : Int × Int) (w : World) (e : Ending) (w' : World) : Prop := e = .returned (.tuple #[.int .i64 r.1, .int .i64 r.2]) ∧ Chg (fun _ => False) w w'

theorem PairPost.of {r : Int × Int} {x y : Int} {w w' : World} (h : r = (x, y)) (hc : Chg (fun _ => False) w w') : PairPost r w (.returned (.tuple #[.int .i64 x, .int .i64 y])) w' := by
  subst h
  exact ⟨rfl, hc⟩

theorem slack_region64 (T : Int) (s : Sp) (x y : Int) (p br bo len c : Nat) (w : World) (z : Ext) (ht : 1 ≤ T) (ht2 : T ≤ 1000) (h0 : -1000 ≤ s.lo) (h1 : s.lo ≤ 1000)
    (hf0 : 0 ≤ s.src) (hg0 : 0 ≤ s.dst) (hf : s.src < len) (hg : s.dst < len) (hl : len ≤ 1000) (hx : 0 ≤ x ∧ x ≤ 1000) (hy : 0 ≤ y ∧ y ≤ 1000)
    (hcp : w.cell? ⟨p, 0, none⟩ = some (.int .i64 T))
    (hcx : w.cell? ⟨br, bo + s.src.toNat, none⟩ = some (.int .i64 x)) (hcy : w.cell? ⟨br, bo + s.dst.toNat, none⟩ = some (.int .i64 y)) :
    Calls Try.prog 64 #[.pointer (some ⟨p, 0, none⟩), .agg #[.int .i64 s.src, .int .i64 s.dst, .int .i64 s.lo, .int .i64 s.hi], .slice (some ⟨br, bo, none⟩) len c] (w.grow z) fun e w' => e = .returned (.int .i64 ((y - x - s.lo) % T)) ∧ ∃ x, w' = (w.grow z).grow x :=
  slack_any T s.src s.dst s.lo s.hi x y p 0 br bo len c (w.grow z) ht ht2 h0 h1 hf0 hg0 hf hg hl hx hy (World.grow_cell hcp z) (World.grow_cell hcx z) (World.grow_cell hcy z)

theorem raw_ok {t n : Int} {l : List Sp} (hv : Valid t n l) {k : Int} (hk : kOk l k) : rawSp l k ∈ l := by
  obtain ⟨h0, h1, h2⟩ := hk
  have hlt : k.natAbs - 1 < l.length := by omega
  unfold rawSp
  rw [List.getD_eq_getElem?_getD, List.getElem?_eq_getElem hlt]
  exact List.getElem_mem hlt

theorem term_bounds {t n : Int} {l : List Sp} (hv : Valid t n l) {k : Int} (hk : kOk l k) (X : List Int) : -700 ≤ termV t l X k ∧ termV t l X k ≤ 700 := by
  have h1 := hv.ok _ (raw_ok hv hk)
  have h2 := slackV_bounds hv.t1 (rawSp l k) X
  have h3 := hv.t2
  unfold termV
  split <;> omega

theorem sumT_bounds {t n : Int} {l : List Sp} (hv : Valid t n l) {R X : List Int} {m : Nat} (hk : ∀ i, i < m → kOk l (hr R i)) : -(700 * m : Int) ≤ sumT t l X R m ∧ sumT t l X R m ≤ 700 * m := by
  induction m with
  | zero => simp [sumT]
  | succ m ih =>
    have h1 := ih (fun i hi => hk i (by omega))
    have h2 := term_bounds hv (hk m (by omega)) X
    simp only [sumT]
    omega

set_option maxRecDepth 100000 in
set_option maxHeartbeats 2000000 in
theorem Rounds_any (t n : Int) (l : List Sp) (a : Option Addr) (cap b off : Nat) (X : List Int) (ax : Option Addr) (cx bx ox : Nat) (R : List Int) (ar : Option Addr) (cr br or_ : Nat) (w : World) (hs : SpansAt w b off l) (ha : l = [] ∨ a = some ⟨b, off, none⟩)
    (hX : IntsAt w bx ox X) (hax : X = [] ∨ ax = some ⟨bx, ox, none⟩) (hXl : X.length ≤ 40) (hR : IntsAt w br or_ R) (har : R = [] ∨ ar = some ⟨br, or_, none⟩) (hRl : R.length ≤ 40) :
    Calls Try.prog 37 #[.int .i64 t, .int .i64 n, .slice a l.length cap, .slice ax X.length cx, .slice ar R.length cr] w (PairPost (roundsE t n l X R) w) := by
  have HS := Lib.hid hs; have HA := Lib.hid ha; have HX := Lib.hid hX; have HAX := Lib.hid hax; have HR := Lib.hid hR; have HAR := Lib.hid har; clear hs ha hX hax hR har
  go_enter Try.func37, Try.ntmps37
  go_wp2_with fail
  refine (of_any t n l a cap w b off HS.out HA.out).mono ?_
  rintro e w' ⟨⟨x, rfl⟩, ⟨h0, rfl⟩ | ⟨h0, p, rfl, hp, hsz⟩⟩
  · have hq : (spansE t n l != 0) = true := by simpa using h0
    have H0 := Lib.hid (roundsE_err (X := X) (R := R) h0); have HC := Lib.hid (grow_chg w x); clear h0
    go_wp2_with fail
    go_ret2
    exact .of H0.out HC.out
  · have hv := valid_of h0
    obtain ⟨T, rfl⟩ : ∃ T : Nat, t = T := ⟨t.toNat, by have := hv.t1; omega⟩
    obtain ⟨N, rfl⟩ : ∃ N : Nat, n = N := ⟨n.toNat, by have := hv.n1; omega⟩
    have hc0 := grow_chg w x
    have HC0 := Lib.hid hc0
    have H0 := Lib.hid h0; have HV := Lib.hid hv; have HP := Lib.hid hp
    have ht1 := hv.t1; have ht2 := hv.t2; have hn2 := hv.n2
    clear h0 hv hp hc0
    generalize w.grow x = W at HC0 HP ⊢
    go_wp2_with fail
    refine (steps_any T N l a ar cap cr W p b off br or_ R (HS.out.chg HC0.out (fun x => x)) HA.out HV.out HP.out (HR.out.chg HC0.out (fun x => x)) HAR.out (by omega)).mono ?_
    rintro e w1 ⟨v, m, bb, rfl, how, hbb, hbm, hch, hm, hc⟩
    obtain ⟨ao, c, rfl, hform⟩ := owns_form how
    have HC1 := Lib.hid (HC0.out.trans hc (fun _ x => x.elim))
    have HF := Lib.hid hform; have HBB := Lib.hid hbb; have HBM := Lib.hid hbm; have HCH := Lib.hid hch; have HP1 := Lib.hid (HP.out.chg hc (fun x => x))
    have hfew := hch.few HV.out
    clear how hbb hbm hch hc hform
    cases bb with
    | false =>
      have HE := Lib.hid (roundsE_bad (X := X) (R := R) H0.out (fun h => by have := HBB.out.2 (by have := h.1; rwa [Int.toNat_natCast] at this); cases this))
      go_wp2_with fail
      go_ret2
      exact .of HE.out HC1.out
    | true =>
      obtain rfl : R.length = m := (HBM.out rfl).symm
      go_wp2_with fail
      refine (is_any l a cap b off X ax cx bx ox T N p w1 HV.out (HS.out.chg HC1.out (fun x => x)) HA.out (HX.out.chg HC1.out (fun x => x)) HAX.out (by omega) HP1.out).mono ?_
      rintro e w2 ⟨b2, rfl, hb2, hc2⟩
      have HB2 := Lib.hid hb2; have HC2 := Lib.hid (HC1.out.trans hc2 (fun _ x => x.elim)); have HC12 := Lib.hid hc2; have HP2 := Lib.hid (HP1.out.chg hc2 (fun x => x))
      clear hb2 hc2
      cases b2 with
      | false =>
        have HE := Lib.hid (roundsE_bad (X := X) (R := R) H0.out (fun h => by have := HB2.out.2 h.2; cases this))
        go_wp2_with fail
        go_ret2
        exact .of HE.out HC2.out
      | true =>
        have hpl := HB2.out.1 rfl
        have HE := Lib.hid (roundsE_ok (X := X) (R := R) H0.out ⟨by rw [Int.toNat_natCast]; exact HBB.out.1 (by simp), hpl⟩)
        have hlen := hpl.1.1
        have hn1 := HV.out.n1
        have hne : ax = some ⟨bx, ox, none⟩ := HAX.out.resolve_left (by intro h; rw [h] at hlen; simp at hlen; omega)
        subst hne
        have HH := Lib.hid hpl.1
        clear hpl hlen hn1
        go_wp2_with fail
        go_loopg [16, 46] R.length (fun g sv iv wr => ∃ i : Nat, i ≤ R.length ∧ g = R.length - i ∧ iv = .int .i64 i ∧ sv = .int .i64 (sumT T l X R i) ∧ Chg (fun _ => False) w2 wr)
        case atStart => exact ⟨0, by omega, by omega, rfl, rfl, Chg.refl _ w2⟩
        case round =>
          obtain ⟨i, him, rfl, rfl, rfl, hcg⟩ := hrel
          have HCG := Lib.hid hcg
          have hsb := sumT_bounds (X := X) HV.out (HCH.out.mono him).ok
          obtain ⟨sm, hsm⟩ : ∃ sm, sumT T l X R i = sm := ⟨_, rfl⟩
          rw [hsm] at hsb ⊢
          have HSM := Lib.hid hsm
          clear hcg hsm
          by_cases hlt : i < R.length
          · obtain ⟨g, rfl, hg1, hg2, hcells⟩ := HF.out (by omega)
            have hok := HCH.out.ok i hlt
            have HMEM := Lib.hid (raw_ok HV.out hok)
            have hrb := HV.out.ok _ HMEM.out
            have ecells' : stepCells l (hr R i) = [.int .i64 (rawSp l (hr R i)).src, .int .i64 (rawSp l (hr R i)).dst, .int .i64 (rawSp l (hr R i)).lo, .int .i64 (rawSp l (hr R i)).hi, .bool (decide (0 < hr R i))] := rfl
            have HTV := Lib.hid (show termV T l X (hr R i) = _ from rfl)
            have htv : termV T l X (hr R i) = if decide (0 < hr R i) = true then (rawSp l (hr R i)).lo + slackV T (rawSp l (hr R i)) X else -((rawSp l (hr R i)).lo + slackV T (rawSp l (hr R i)) X) := by unfold termV; simp
            generalize rawSp l (hr R i) = s at htv ecells' hrb HMEM
            obtain ⟨bl', hbl'⟩ : ∃ bl', decide (0 < hr R i) = bl' := ⟨_, rfl⟩
            rw [hbl'] at htv ecells'
            have hcc := HC12.out.trans HCG.out (fun _ x => x.elim)
            have p0 := hcc.cell_some (hcells (i * 5) _ ((stepsCells_get (l := l) (R := R) (m := R.length) (i := i) (j := 0) (by omega) (by omega)).trans (by rw [ecells']; rfl))) (fun x => x)
            have p1 := hcc.cell_some (hcells (i * 5 + 1) _ ((stepsCells_get (l := l) (R := R) (m := R.length) (i := i) (by omega) (by omega)).trans (by rw [ecells']; rfl))) (fun x => x)
            have p2 := hcc.cell_some (hcells (i * 5 + 2) _ ((stepsCells_get (l := l) (R := R) (m := R.length) (i := i) (by omega) (by omega)).trans (by rw [ecells']; rfl))) (fun x => x)
            have p3 := hcc.cell_some (hcells (i * 5 + 3) _ ((stepsCells_get (l := l) (R := R) (m := R.length) (i := i) (by omega) (by omega)).trans (by rw [ecells']; rfl))) (fun x => x)
            have p4 := hcc.cell_some (hcells (i * 5 + 4) _ ((stepsCells_get (l := l) (R := R) (m := R.length) (i := i) (by omega) (by omega)).trans (by rw [ecells']; rfl))) (fun x => x)
            have hlen := HH.out.1
            have hx := inHours_hr HH.out (i := s.src.toNat) (by omega)
            have hy := inHours_hr HH.out (i := s.dst.toNat) (by omega)
            have hcw := HC2.out.trans HCG.out (fun _ x => x.elim)
            have hXw := HX.out.chg hcw (fun x => x)
            have hcx := hXw s.src.toNat (by omega)
            have hcy := hXw s.dst.toNat (by omega)
            rw [hr_get] at hcx hcy
            obtain ⟨x, hxx⟩ : ∃ x, hr X s.src.toNat = x := ⟨_, rfl⟩
            obtain ⟨y, hyy⟩ : ∃ y, hr X s.dst.toNat = y := ⟨_, rfl⟩
            rw [hxx] at hx hcx
            rw [hyy] at hy hcy
            have hkx : s.src < X.length := by omega
            have hky : s.dst < X.length := by omega
            have hqb := slackV_bounds (show (1 : Int) ≤ T by omega) s X
            obtain ⟨q, hq⟩ : ∃ q, slackV T s X = q := ⟨_, rfl⟩
            have hsv : (y - x - s.lo) % (T : Int) = q := by rw [← hq]; unfold slackV; rw [hxx, hyy]
            rw [hq] at hqb htv
            have hcp := (HP2.out.chg HCG.out (fun x => x)).1
            have hal : Chg (fun _ => False) wr (wr.alloc (Obj.cells #[.int .i64 s.src, .int .i64 s.dst, .int .i64 s.lo, .int .i64 s.hi, .bool bl'] 59)) := (Chg.refl _ wr).alloc _
            have HSL := Lib.hid (fun (z : Ext) => slack_region64 T s x y p bx ox X.length cx _ z ht1 (by omega) (by omega) (by omega) (by omega) (by omega) hkx hky (by omega) (by omega) (by omega) (hal.cell_some hcp (fun x => x)) (hal.cell_some hcx (fun x => x)) (hal.cell_some hcy (fun x => x)))
            simp only [hsv] at HSL
            have HBK := Lib.hid (Blk.new wr #[.int .i64 s.src, .int .i64 s.dst, .int .i64 s.lo, .int .i64 s.hi, .bool bl'] 59)
            have HCW := Lib.hid (HCG.out.alloc (Obj.cells #[.int .i64 s.src, .int .i64 s.dst, .int .i64 s.lo, .int .i64 s.hi, .bool bl'] 59))
            have HTV2 := Lib.hid htv
            have hab : -700 ≤ s.lo + q ∧ s.lo + q ≤ 700 := by omega
            clear HTV hq hsv hxx hyy hXw hcx hcy hcp hal hcw hcc hcells ecells' hbl' hok hlen htv
            go_wp2_with fail
            generalize (wr.alloc (Obj.cells #[.int .i64 s.src, .int .i64 s.dst, .int .i64 s.lo, .int .i64 s.hi, .bool bl'] 59)) = W4 at HSL HBK HCW ⊢
            have g0 := World.grow_cell (HBK.out.cell_some (i := 0) rfl)
            have g1 := World.grow_cell (HBK.out.cell_some (i := 1) rfl)
            have g2 := World.grow_cell (HBK.out.cell_some (i := 2) rfl)
            have g3 := World.grow_cell (HBK.out.cell_some (i := 3) rfl)
            have g4 := World.grow_cell (HBK.out.cell_some (i := 4) rfl)
            have hwr : IntKind.i64.wrap (s.lo + q) = s.lo + q := by rw [IntKind.wrap_i64]; omega
            clear p0 p1 p2 p3 p4
            refine wp_region_grow_lit (by kernel_rfl) (by kernel_rfl) ?_
            repeat (go_big_quiet_step ((go_at_call 64; exact Calls.grow_of (HSL.out _))))
            refine wpQuiet_nil ?_
            intro _ hw'
            obtain ⟨nq, hw''⟩ := hw'
            subst hw''
            have HG := Lib.hid (HCW.out.grow nq)
            have g5 := g4 nq
            clear g0 g1 g2 g3 g4 hwr
            cases bl' with
            | true =>
              go_wp2_with fail
              go_roundg (R.length - (i + 1))
              case measure => omega
              case rel => exact ⟨i + 1, by omega, rfl, by go_num, by rw [sumT, HSM.out, HTV2.out]; rfl, HG.out⟩
            | false =>
              go_wp2_with fail
              go_roundg (R.length - (i + 1))
              case measure => omega
              case rel => exact ⟨i + 1, by omega, rfl, by go_num, by rw [sumT, HSM.out, HTV2.out]; go_num, HG.out⟩
          · obtain rfl : i = R.length := by omega
            clear hlt
            have hTd : (sm.tdiv T) = sm.tdiv T := rfl
            go_wp2_with fail
            go_ret2
            exact .of (by rw [HE.out, HSM.out]) (HC2.out.trans HCG.out (fun _ x => x.elim))
end Go.Proofs.Ytgamekcjjpjnnaa
