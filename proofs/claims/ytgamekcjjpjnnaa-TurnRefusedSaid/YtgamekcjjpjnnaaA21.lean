/- Refuses, of the program and of the reference, walked. Their conditions are their premises. -/
import Derived.Test.YtgamekcjjpjnnaaA20
set_option linter.unusedVariables false
namespace Go.Proofs.Ytgamekcjjpjnnaa
open Go.RowKit

/-- Does a ring refuse? -/
def refP (t n : Int) (l : List Sp) (R : List Int) : Prop := spansE t n l = 0 ∧ isRing n.toNat l R ∧ sumHi l R R.length < sumLo l R R.length + -(sumLo l R R.length) % t

/-- What Refuses answers. -/
def RfPost (t n : Int) (l : List Sp) (R : List Int) (w : World) (e : Ending) (w' : World) : Prop :=
  ∃ b : Bool, e = .returned (.tuple #[.bool b, .int .i64 (spansE t n l)]) ∧ (b = true ↔ refP t n l R) ∧ Chg (fun _ => False) w w'

theorem RfPost.err {t n : Int} {l : List Sp} {R : List Int} {w w' : World} (h : spansE t n l ≠ 0) (hc : Chg (fun _ => False) w w') : RfPost t n l R w (.returned (.tuple #[.bool false, .int .i64 (spansE t n l)])) w' :=
  ⟨false, rfl, ⟨fun h => (by cases h), fun h' => absurd h'.1 h⟩, hc⟩
theorem RfPost.mk' {T N : Nat} {l : List Sp} {R : List Int} {w w' : World} {b : Bool} (h : spansE (T : Int) (N : Int) l = 0) (hb : b = true ↔ isRing N l R ∧ sumHi l R R.length < sumLo l R R.length + -(sumLo l R R.length) % (T : Int)) (hc : Chg (fun _ => False) w w') :
    RfPost (T : Int) (N : Int) l R w (.returned (.tuple #[.bool b, .int .i64 0])) w' := by
  refine ⟨b, by rw [h], ?_, hc⟩
  unfold refP
  rw [hb, Int.toNat_natCast]
  exact ⟨fun h' => ⟨h, h'⟩, fun h' => h'.2⟩

theorem raw_bounds {t n : Int} {l : List Sp} (hv : Valid t n l) {k : Int} (hk : kOk l k) :
    -1000 ≤ (l.getD (k.natAbs - 1) default).lo ∧ (l.getD (k.natAbs - 1) default).lo ≤ 1000 ∧ -1000 ≤ (l.getD (k.natAbs - 1) default).hi ∧ (l.getD (k.natAbs - 1) default).hi ≤ 1000 := by
  obtain ⟨h0, h1, h2⟩ := hk
  have hlt : k.natAbs - 1 < l.length := by omega
  have e : l.getD (k.natAbs - 1) default = l[k.natAbs - 1] := by rw [List.getD_eq_getElem?_getD, List.getElem?_eq_getElem hlt]; rfl
  rw [e]
  exact valid_bounds hv _ (List.getElem_mem hlt)

set_option maxRecDepth 100000 in
set_option maxHeartbeats 2000000 in
theorem Refuses_any (t n : Int) (l : List Sp) (a : Option Addr) (cap : Nat) (R : List Int) (ar : Option Addr) (cr : Nat) (w : World) (b off br or_ : Nat) (hs : SpansAt w b off l) (ha : l = [] ∨ a = some ⟨b, off, none⟩)
    (hR : IntsAt w br or_ R) (har : R = [] ∨ ar = some ⟨br, or_, none⟩) (hRl : R.length ≤ 40) :
    Calls Try.prog 28 #[.int .i64 t, .int .i64 n, .slice a l.length cap, .slice ar R.length cr] w (RfPost t n l R w) := by
  have HS := Lib.hid hs; have HA := Lib.hid ha; have HR := Lib.hid hR; have HAR := Lib.hid har; clear hs ha hR har
  go_enter Try.func28, Try.ntmps28
  go_wp2_with fail
  refine (of_any t n l a cap w b off HS.out HA.out).mono ?_
  rintro e w' ⟨⟨x, rfl⟩, ⟨h0, rfl⟩ | ⟨h0, p, rfl, hp, hsz⟩⟩
  · have hq : (spansE t n l != 0) = true := by simpa using h0
    have H0 := Lib.hid h0; have HC := Lib.hid (grow_chg w x); clear h0
    go_wp2_with fail
    go_ret2
    exact .err H0.out HC.out
  · have hv := valid_of h0
    obtain ⟨T, rfl⟩ : ∃ T : Nat, t = T := ⟨t.toNat, by have := hv.t1; omega⟩
    obtain ⟨N, rfl⟩ : ∃ N : Nat, n = N := ⟨n.toNat, by have := hv.n1; omega⟩
    have hc0 := grow_chg w x
    have HC0 := Lib.hid hc0
    have H0 := Lib.hid h0; have HV := Lib.hid hv; have HP := Lib.hid hp
    have ht1 := hv.t1; have ht2 := hv.t2; have hn2 := hv.n2
    clear h0 hv hp hc0
    generalize w.grow x = W at HC0 HP ⊢
    go_wp2_with fail
    refine (steps_any T N l a ar cap cr W p b off br or_ R (HS.out.chg HC0.out (fun x => x)) HA.out HV.out HP.out (HR.out.chg HC0.out (fun x => x)) HAR.out (by omega)).mono ?_
    rintro e w1 ⟨v, m, bb, rfl, how, hbb, hbm, hch, hm, hc⟩
    obtain ⟨ao, c, rfl, hform⟩ := owns_form how
    have HC1 := Lib.hid (HC0.out.trans hc (fun _ x => x.elim))
    have HF := Lib.hid hform; have HBB := Lib.hid hbb; have HBM := Lib.hid hbm; have HCH := Lib.hid hch; have HP1 := Lib.hid (HP.out.chg hc (fun x => x))
    have hfew := hch.few HV.out
    clear how hbb hbm hch hc hform
    go_wp2_with fail
    go_loopg [14, 15, 38] m (fun g lo hi iv wr => ∃ i : Nat, i ≤ m ∧ g = m - i ∧ iv = .int .i64 i ∧ lo = .int .i64 (sumLo l R i) ∧ hi = .int .i64 (sumHi l R i) ∧ Chg (fun _ => False) w1 wr)
    case atStart => exact ⟨0, by omega, by omega, rfl, rfl, rfl, Chg.refl _ w1⟩
    case round =>
      obtain ⟨i, him, rfl, rfl, rfl, rfl, hcg⟩ := hrel
      have HCG := Lib.hid hcg
      have hsb := sum_bounds HV.out (HCH.out.mono him).ok
      obtain ⟨lo, hlo⟩ : ∃ lo, sumLo l R i = lo := ⟨_, rfl⟩
      obtain ⟨hi, hhi⟩ : ∃ hi, sumHi l R i = hi := ⟨_, rfl⟩
      rw [hlo, hhi] at hsb ⊢
      have HLO := Lib.hid hlo; have HHI := Lib.hid hhi
      clear hcg hlo hhi
      by_cases hlt : i < m
      · obtain ⟨g, rfl, hg1, hg2, hcells⟩ := HF.out (by omega)
        have hok := HCH.out.ok i hlt
        have hrb := raw_bounds HV.out hok
        have hkb := kSp_ok HV.out hok
        obtain ⟨k, hk⟩ : ∃ k, hr R i = k := ⟨_, rfl⟩
        have ecells' : stepCells l (hr R i) = [.int .i64 (l.getD ((hr R i).natAbs - 1) default).src, .int .i64 (l.getD ((hr R i).natAbs - 1) default).dst, .int .i64 (l.getD ((hr R i).natAbs - 1) default).lo, .int .i64 (l.getD ((hr R i).natAbs - 1) default).hi, .bool (decide (0 < hr R i))] := rfl
        have el := kSp_lo l (hr R i)
        have eh := kSp_hi l (hr R i)
        generalize l.getD ((hr R i).natAbs - 1) default = s' at el eh ecells' hrb
        obtain ⟨bl', hbl'⟩ : ∃ bl', decide (0 < hr R i) = bl' := ⟨_, rfl⟩
        rw [hbl'] at el eh ecells'
        have p0 := HCG.out.cell_some (hcells (i * 5) _ ((stepsCells_get (l := l) (R := R) (m := m) (i := i) (j := 0) (by omega) (by omega)).trans (by rw [ecells']; rfl))) (fun x => x)
        have p1 := HCG.out.cell_some (hcells (i * 5 + 1) _ ((stepsCells_get (l := l) (R := R) (m := m) (i := i) (by omega) (by omega)).trans (by rw [ecells']; rfl))) (fun x => x)
        have p2 := HCG.out.cell_some (hcells (i * 5 + 2) _ ((stepsCells_get (l := l) (R := R) (m := m) (i := i) (by omega) (by omega)).trans (by rw [ecells']; rfl))) (fun x => x)
        have p3 := HCG.out.cell_some (hcells (i * 5 + 3) _ ((stepsCells_get (l := l) (R := R) (m := m) (i := i) (by omega) (by omega)).trans (by rw [ecells']; rfl))) (fun x => x)
        have p4 := HCG.out.cell_some (hcells (i * 5 + 4) _ ((stepsCells_get (l := l) (R := R) (m := m) (i := i) (by omega) (by omega)).trans (by rw [ecells']; rfl))) (fun x => x)
        obtain ⟨x1, hx1⟩ : ∃ x1, (kSp l (hr R i)).lo = x1 := ⟨_, rfl⟩
        obtain ⟨x2, hx2⟩ : ∃ x2, (kSp l (hr R i)).hi = x2 := ⟨_, rfl⟩
        rw [hx1, hx2] at hkb
        rw [hx1] at el
        rw [hx2] at eh
        have hxb : -700 ≤ x1 ∧ x1 ≤ 700 ∧ -700 ≤ x2 ∧ x2 ≤ 700 := by omega
        have HX1 := Lib.hid hx1; have HX2 := Lib.hid hx2; have HEL := Lib.hid el; have HEH := Lib.hid eh
        clear hx1 hx2 el eh hcells ecells' hbl' hkb hok hk
        go_wp2_with fail
        refine (sums_any s'.src s'.dst s'.lo s'.hi bl' _ (by omega) (by omega) (by omega) (by omega)).mono ?_
        rw [HEL.out, HEH.out]
        rintro e w' ⟨rfl, x, rfl⟩
        have HCJ := Lib.hid ((HCG.out.alloc (Obj.cells #[.int .i64 s'.src, .int .i64 s'.dst, .int .i64 s'.lo, .int .i64 s'.hi, .bool bl'] 59)).grow x)
        clear p0 p1 p2 p3 p4
        go_wp2_with fail
        go_roundg (m - (i + 1))
        case measure => omega
        case rel => exact ⟨i + 1, by omega, rfl, by go_num, by rw [sumLo, HLO.out, HX1.out], by rw [sumHi, HHI.out, HX2.out], HCJ.out⟩
      · obtain rfl : m = i := by omega
        clear hlt
        cases bb with
        | false =>
          go_wp2_with fail
          go_ret2
          exact .mk' H0.out ⟨fun h => (by cases h), fun h => HBB.out.2 h.1⟩ (HC1.out.trans HCG.out (fun _ x => x.elim))
        | true =>
          have hml := HBM.out rfl
          have hcp := (HP1.out.chg HCG.out (fun x => x)).1
          go_wp2_with fail
          refine (refuses_any lo hi T p 0 wr (by omega) (by omega) (by omega) (by omega) (by omega) (by omega) hcp).mono ?_
          rintro e w' ⟨rfl, y, rfl⟩
          have HCY := Lib.hid ((HC1.out.trans HCG.out (fun _ x => x.elim)).drewN y)
          have HML := Lib.hid hml
          clear hcp hml
          go_wp2_with fail
          go_ret2
          refine .mk' H0.out ?_ HCY.out
          rw [decide_eq_true_eq, ← HML.out, HLO.out, HHI.out]
          exact ⟨fun h => ⟨HBB.out.1 (by simp), h⟩, fun h => h.2⟩

set_option maxRecDepth 100000 in
set_option maxHeartbeats 2000000 in
theorem rRefuses_any (t n : Int) (l : List Sp) (a : Option Addr) (cap : Nat) (R : List Int) (ar : Option Addr) (cr : Nat) (w : World) (b off br or_ : Nat) (hs : SpansAt w b off l) (ha : l = [] ∨ a = some ⟨b, off, none⟩)
    (hR : IntsAt w br or_ R) (har : R = [] ∨ ar = some ⟨br, or_, none⟩) (hI : ∀ x ∈ R, I64 x) :
    Calls Try.prog 29 #[.int .i64 t, .int .i64 n, .slice a l.length cap, .slice ar R.length cr] w (RfPost t n l R w) := by
  have HS := Lib.hid hs; have HA := Lib.hid ha; have HR := Lib.hid hR; have HAR := Lib.hid har; have HI := Lib.hid hI; clear hs ha hR har hI
  go_enter Try.func29, Try.ntmps29
  go_wp2_with fail
  refine (spans_any t n l a cap w b off HS.out HA.out).mono ?_
  rintro e w' ⟨rfl, x, rfl⟩
  have HC := Lib.hid (grow_chg w x)
  generalize w.grow x = W at HC ⊢
  by_cases h0 : spansE t n l = 0
  · rw [h0]
    have hv := valid_of h0
    obtain ⟨T, rfl⟩ : ∃ T : Nat, t = T := ⟨t.toNat, by have := hv.t1; omega⟩
    obtain ⟨N, rfl⟩ : ∃ N : Nat, n = N := ⟨n.toNat, by have := hv.n1; omega⟩
    have H0 := Lib.hid h0; have HV := Lib.hid hv
    have ht1 := hv.t1; have ht2 := hv.t2; have hn2 := hv.n2
    clear h0 hv
    go_wp2_with fail
    refine (IsRing_any T N l a ar cap cr W b off br or_ R (HS.out.chg HC.out (fun x => x)) HA.out HV.out (HR.out.chg HC.out (fun x => x)) HAR.out HI.out).mono ?_
    rintro e w1 ⟨x, y, bb, rfl, hb, hxy, hc⟩
    have HB := Lib.hid hb; have HC1 := Lib.hid (HC.out.trans hc (fun _ x => x.elim))
    clear hb hc
    cases bb with
    | false =>
      clear hxy
      go_wp2_with fail
      go_ret2
      exact .mk' H0.out ⟨fun h => (by cases h), fun h => HB.out.2 h.1⟩ HC1.out
    | true =>
      obtain ⟨rfl, rfl⟩ := hxy rfl
      have hring := HB.out.1 rfl
      have hsb := sum_bounds HV.out hring.2.2.1.ok
      have hlen := hring.2.1
      obtain ⟨lo, hlo⟩ : ∃ lo, sumLo l R R.length = lo := ⟨_, rfl⟩
      obtain ⟨hi, hhi⟩ : ∃ hi, sumHi l R R.length = hi := ⟨_, rfl⟩
      rw [hlo, hhi] at hsb ⊢
      have HLO := Lib.hid hlo; have HHI := Lib.hid hhi; have HRG := Lib.hid hring
      clear hlo hhi hring hxy
      go_wp2_with fail
      refine (rrefuses_any lo hi T w1 (by omega) (by omega) (by omega) (by omega) (by omega) (by omega)).mono ?_
      rintro e w'' ⟨rfl, rfl⟩
      go_wp2_with fail
      go_ret2
      refine .mk' H0.out ?_ HC1.out
      rw [decide_eq_true_eq, HLO.out, HHI.out]
      exact ⟨fun h => ⟨HRG.out, by omega⟩, fun h => by have := h.2; omega⟩
  · have hq : (spansE t n l != 0) = true := by simpa using h0
    have H0 := Lib.hid h0; clear h0
    go_wp2_with fail
    go_ret2
    exact .err H0.out HC.out
end Go.Proofs.Ytgamekcjjpjnnaa
