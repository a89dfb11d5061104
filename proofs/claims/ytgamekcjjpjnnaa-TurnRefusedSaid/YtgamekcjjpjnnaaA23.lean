/- The program's Is and Slack, walked. Their conditions are their premises. -/
import Derived.Test.YtgamekcjjpjnnaaA22
import Derived.Test.YtgamekcjjpjnnaaA20
set_option linter.unusedVariables false
namespace Go.Proofs.Ytgamekcjjpjnnaa
open Go.RowKit

instance (T N : Int) (X : List Int) : Decidable (inHours T N X) := by unfold inHours; infer_instance
/-- Is a list of hours a plan? -/
def planP (T N : Int) (l : List Sp) (X : List Int) : Prop := inHours T N X ∧ hr X 0 = 0 ∧ ∀ s ∈ l, slackV T s X ≤ s.hi - s.lo
instance (T N : Int) (l : List Sp) (X : List Int) : Decidable (planP T N l X) := by unfold planP; infer_instance

set_option maxRecDepth 100000 in
set_option maxHeartbeats 1000000 in
theorem index_spans (l : List Sp) (a : Option Addr) (cap b off : Nat) (X : List Int) (c : Nat) (T N : Int) (v : Value) (bp bh p br bo : Nat) (w : World) (hv : Valid T N l) (hs : SpansAt w b off l) (ha : l = [] ∨ a = some ⟨b, off, none⟩)
    (hX : IntsAt w br bo X) (hH : inHours T N X) (hb : w.cell? ⟨bp, 0, none⟩ = some (.pointer (some ⟨p, 0, none⟩))) (hbh : w.cell? ⟨bh, 0, none⟩ = some (.slice (some ⟨br, bo, none⟩) X.length c)) (hp : PlanAt w p T N v) :
    Calls Try.prog 81 #[.slice a l.length cap, .func (.func 76) #[] #[.pointer (some ⟨bp, 0, none⟩), .pointer (some ⟨bh, 0, none⟩)]] w (FoundAt (∃ s ∈ l, s.hi - s.lo < slackV T s X) w) := by
  have HV := Lib.hid hv; have HS := Lib.hid hs; have HA := Lib.hid ha; have HX := Lib.hid hX; have HH := Lib.hid hH; have HBP := Lib.hid hb; have HBH := Lib.hid hbh; have HP := Lib.hid hp
  have hl20 := hv.len
  clear hv hs ha hX hH hb hbh hp
  go_enter Try.func81, Try.ntmps81
  go_wp2
  go_loopg [8] l.length (fun g iv wr => ∃ i : Nat, i ≤ l.length ∧ g = l.length - i ∧ iv = .int .i64 i ∧ (∀ j (h : j < l.length), j < i → ¬ (l[j].hi - l[j].lo < slackV T l[j] X)) ∧ Chg (fun _ => False) w wr)
  case atStart => exact ⟨0, by omega, by omega, rfl, fun j h hj => by omega, Chg.refl _ w⟩
  case round =>
    obtain ⟨i, hi, rfl, rfl, hno, hcg⟩ := hrel
    have HNO := Lib.hid hno; have HCG := Lib.hid hcg
    clear hno hcg
    by_cases hlt : i < l.length
    · have hne : a = some ⟨b, off, none⟩ := HA.out.resolve_left (by intro h; simp [h] at hlt)
      subst hne
      obtain ⟨c0, c1, c2, c3⟩ := HS.out.chg HCG.out (fun x => x) i hlt
      have HIN := Lib.hid (List.getElem_mem hlt)
      obtain ⟨s, hs⟩ : ∃ s, l[i] = s := ⟨_, rfl⟩
      rw [hs] at c0 c1 c2 c3
      have HSS := Lib.hid hs
      have HOK := Lib.hid (show 0 ≤ s.src ∧ s.src < N ∧ 0 ≤ s.dst ∧ s.dst < N ∧ s.src ≠ s.dst ∧ -600 ≤ s.lo ∧ s.lo ≤ 600 ∧ s.lo ≤ s.hi ∧ s.hi ≤ s.lo + T - 1 from by rw [← hs]; exact HV.out.ok _ HIN.out)
      clear hs
      go_wp2_with fail
      refine (fn76_any s X c T N v bp bh p br bo wr HV.out.t1 HV.out.t2 (HX.out.chg HCG.out (fun x => x)) HH.out HV.out.n2 HOK.out (HCG.out.cell_some HBP.out (fun x => x)) (HCG.out.cell_some HBH.out (fun x => x)) (HP.out.chg HCG.out (fun x => x))).mono ?_
      rintro e w' ⟨rfl, x, rfl⟩
      have HCX := Lib.hid (HCG.out.grow x)
      clear c0 c1 c2 c3
      by_cases hd : s.hi - s.lo < slackV T s X
      · rw [show decide (s.hi - s.lo < slackV T s X) = true by simpa using hd]
        have HD := Lib.hid hd
        clear hd
        go_wp2_with fail
        go_ret
        exact ⟨i, rfl, ⟨fun _ => ⟨s, by rw [← HSS.out]; exact HIN.out, HD.out⟩, fun _ => by omega⟩, HCX.out⟩
      · rw [show decide (s.hi - s.lo < slackV T s X) = false by simpa using hd]
        have HD := Lib.hid hd
        clear hd
        go_wp2_with fail
        go_roundg (l.length - (i + 1))
        case measure => omega
        case rel => exact ⟨i + 1, by omega, rfl, by go_num, fun j h hj => by
          rcases Nat.lt_succ_iff_lt_or_eq.1 hj with h' | rfl
          · exact HNO.out j h h'
          · rw [HSS.out]; exact HD.out, HCX.out⟩
    · go_wp2_with fail
      go_ret
      refine ⟨-1, rfl, ⟨fun h => by omega, fun ⟨s, hs, hb⟩ => ?_⟩, HCG.out⟩
      obtain ⟨j, hj, rfl⟩ := List.getElem_of_mem hs
      have := HNO.out j hj (by omega)
      omega

theorem contains_spans (l : List Sp) (a : Option Addr) (cap b off : Nat) (X : List Int) (c : Nat) (T N : Int) (v : Value) (bp bh p br bo : Nat) (w : World) (hv : Valid T N l) (hs : SpansAt w b off l) (ha : l = [] ∨ a = some ⟨b, off, none⟩)
    (hX : IntsAt w br bo X) (hH : inHours T N X) (hb : w.cell? ⟨bp, 0, none⟩ = some (.pointer (some ⟨p, 0, none⟩))) (hbh : w.cell? ⟨bh, 0, none⟩ = some (.slice (some ⟨br, bo, none⟩) X.length c)) (hp : PlanAt w p T N v) :
    Calls Try.prog 75 #[.slice a l.length cap, .func (.func 76) #[] #[.pointer (some ⟨bp, 0, none⟩), .pointer (some ⟨bh, 0, none⟩)]] w (BPost (∃ s ∈ l, s.hi - s.lo < slackV T s X) w) := by
  have HC := Lib.hid (index_spans l a cap b off X c T N v bp bh p br bo w hv hs ha hX hH hb hbh hp)
  clear hv hs ha hX hH hb hbh hp
  go_enter Try.func75, Try.ntmps75
  go_wp2_with fail
  refine HC.out.mono ?_
  rintro e w' ⟨i, rfl, hi, hc⟩
  have HI := Lib.hid hi; have HG := Lib.hid hc
  clear hi hc
  go_wp2_with fail
  go_ret
  exact ⟨decide (0 ≤ i), rfl, by rw [decide_eq_true_eq]; exact HI.out, HG.out⟩

set_option maxRecDepth 100000 in
set_option maxHeartbeats 1000000 in
theorem is_any (l : List Sp) (a : Option Addr) (cap b off : Nat) (X : List Int) (ar : Option Addr) (c br bo : Nat) (T N : Int) (p : Nat) (w : World) (hv : Valid T N l) (hs : SpansAt w b off l) (ha : l = [] ∨ a = some ⟨b, off, none⟩)
    (hX : IntsAt w br bo X) (har : X = [] ∨ ar = some ⟨br, bo, none⟩) (hl : X.length ≤ 1000) (hp : PlanAt w p T N (.slice a l.length cap)) :
    Calls Try.prog 60 #[.pointer (some ⟨p, 0, none⟩), .slice ar X.length c] w (BPost (planP T N l X) w) := by
  have hmf : ∀ (fn : Fn) (first cap : Array Value) (w : World), (Instr.makeFunc fn first cap).run Try.prog w = .ok (.func fn first cap) w := fun _ _ _ _ => rfl
  have HV := Lib.hid hv; have HS := Lib.hid hs; have HA := Lib.hid ha; have HX := Lib.hid hX; have HAR := Lib.hid har; have HP := Lib.hid hp
  have hpb : p < w.heap.size := World.cell_lt hp.1
  clear hv hs ha hX har hp
  go_enter Try.func60, Try.ntmps60
  go_wp2_with fail
  have hc0 : Chg (fun _ => False) w ((w.alloc (Obj.cells #[Value.pointer (some ⟨p, 0, none⟩)] 54)).alloc (Obj.cells #[Value.slice ar X.length c] 25)) := ((Chg.refl _ w).alloc _).alloc _
  have hb0 := (Blk.new w #[Value.pointer (some ⟨p, 0, none⟩)] 54).alloc (Obj.cells #[Value.slice ar X.length c] 25)
  have hb1 := Blk.new (w.alloc (Obj.cells #[Value.pointer (some ⟨p, 0, none⟩)] 54)) #[Value.slice ar X.length c] 25
  rw [show (w.alloc (Obj.cells #[Value.pointer (some ⟨p, 0, none⟩)] 54)).heap.size = w.heap.size + 1 by simp] at hb1
  have HC0 := Lib.hid hc0; have HB0 := Lib.hid hb0; have HB1 := Lib.hid hb1
  clear hc0 hb0 hb1
  generalize ((w.alloc (Obj.cells #[Value.pointer (some ⟨p, 0, none⟩)] 54)).alloc (Obj.cells #[Value.slice ar X.length c] 25)) = W at HC0 HB0 HB1 ⊢
  refine (listed_any X ar c T N (.slice a l.length cap) p br bo W (HX.out.chg HC0.out (fun x => x)) hl HAR.out (HP.out.chg HC0.out (fun x => x))).mono ?_
  rintro e w1 ⟨b1, rfl, hb1, hc1⟩
  have HL := Lib.hid hb1; have HC1 := Lib.hid (HC0.out.trans hc1 (fun _ x => x.elim))
  have HB0' := Lib.hid (hc1.blk HB0.out (fun x => x)); have HB1' := Lib.hid (hc1.blk HB1.out (fun x => x))
  clear hb1 hc1 HB0 HB1
  cases b1 with
  | false =>
    go_wp2_with fail
    go_ret
    exact ⟨false, rfl, ⟨fun h => (by cases h), fun h => HL.out.2 h.1⟩, HC1.out⟩
  | true =>
    have hH := HL.out.1 rfl
    have hn1 := HV.out.n1
    have hlen := hH.1
    have hne : ar = some ⟨br, bo, none⟩ := HAR.out.resolve_left (by intro h; rw [h] at hlen; simp at hlen; omega)
    subst hne
    have g0 := HB0'.out.cell_some (i := 0) rfl
    have g1 := HB1'.out.cell_some (i := 0) rfl
    have g2 := HX.out.chg HC1.out (fun x => x) 0 (by omega)
    have g3 := (HP.out.chg HC1.out (fun x => x)).2.2
    rw [hr_get, Nat.add_zero] at g2
    obtain ⟨x0, hx0⟩ : ∃ x0, hr X 0 = x0 := ⟨_, rfl⟩
    rw [hx0] at g2
    have HX0 := Lib.hid hx0; have HH := Lib.hid hH; have HLEN := Lib.hid hlen
    have hxl : 0 < X.length := by omega
    clear hx0 hH hlen hn1
    by_cases hz : x0 = 0
    · have dz : (x0 == 0) = true := by simpa using hz
      have HZ := Lib.hid hz
      clear hz
      go_wp2_with fail
      refine (contains_spans l a cap b off X c T N (.slice a l.length cap) w.heap.size (w.heap.size + 1) p br bo w1 HV.out (HS.out.chg HC1.out (fun x => x)) HA.out (HX.out.chg HC1.out (fun x => x)) HH.out (HB0'.out.cell_some rfl) (HB1'.out.cell_some rfl) (HP.out.chg HC1.out (fun x => x))).mono ?_
      rintro e w2 ⟨b2, rfl, hb2, hc2⟩
      have HB2 := Lib.hid hb2; have HC2 := Lib.hid (HC1.out.trans hc2 (fun _ x => x.elim))
      clear hb2 hc2 g0 g1 g2 g3
      go_wp2_with fail
      go_ret
      refine ⟨!b2, rfl, ?_, HC2.out⟩
      have hb := HB2.out
      rw [Bool.not_eq_true', ← Bool.not_eq_true, hb]
      unfold planP
      exact ⟨fun h => ⟨HH.out, by rw [HX0.out]; exact HZ.out, fun s hs => Int.not_lt.1 fun h0 => h ⟨s, hs, h0⟩⟩, fun h ⟨s, hs, h0⟩ => by have := h.2.2 s hs; omega⟩
    · have dz : (x0 == 0) = false := by simpa using hz
      have HZ := Lib.hid hz
      clear hz
      go_wp2_with fail
      go_ret
      exact ⟨false, rfl, ⟨fun h => (by cases h), fun h => absurd (by have := h.2.1; rwa [HX0.out] at this) HZ.out⟩, HC1.out⟩

/-- What Is answers. -/
def IsPost (t n : Int) (l : List Sp) (X : List Int) (w : World) (e : Ending) (w' : World) : Prop :=
  e = .returned (.tuple #[.bool (decide (spansE t n l = 0 ∧ planP t n l X)), .int .i64 (spansE t n l)]) ∧ Chg (fun _ => False) w w'

theorem isPost_err {t n : Int} {l : List Sp} {X : List Int} {w w' : World} (h : spansE t n l ≠ 0) (hc : Chg (fun _ => False) w w') : IsPost t n l X w (.returned (.tuple #[.bool false, .int .i64 (spansE t n l)])) w' :=
  ⟨by rw [show decide (spansE t n l = 0 ∧ planP t n l X) = false by rw [decide_eq_false_iff_not]; exact fun h' => h h'.1], hc⟩
theorem isPost_ok {t n : Int} {l : List Sp} {X : List Int} {w w' : World} {b : Bool} (h : spansE t n l = 0) (hb : b = true ↔ planP t n l X) (hc : Chg (fun _ => False) w w') : IsPost t n l X w (.returned (.tuple #[.bool b, .int .i64 0])) w' :=
  ⟨by
    have e : decide (spansE t n l = 0 ∧ planP t n l X) = b := by rw [Bool.eq_iff_iff, decide_eq_true_eq, hb]; exact ⟨fun h' => h'.2, fun h' => ⟨h, h'⟩⟩
    rw [e, h], hc⟩

set_option maxRecDepth 100000 in
theorem Is_any (t n : Int) (l : List Sp) (a : Option Addr) (cap b off : Nat) (X : List Int) (ar : Option Addr) (c br bo : Nat) (w : World) (hs : SpansAt w b off l) (ha : l = [] ∨ a = some ⟨b, off, none⟩)
    (hX : IntsAt w br bo X) (har : X = [] ∨ ar = some ⟨br, bo, none⟩) (hl : X.length ≤ 1000) :
    Calls Try.prog 30 #[.int .i64 t, .int .i64 n, .slice a l.length cap, .slice ar X.length c] w (IsPost t n l X w) := by
  have HS := Lib.hid hs; have HA := Lib.hid ha; have HX := Lib.hid hX; have HAR := Lib.hid har
  clear hs ha hX har
  go_enter Try.func30, Try.ntmps30
  go_wp2_with fail
  refine (of_any t n l a cap w b off HS.out HA.out).mono ?_
  rintro e w' ⟨⟨x, rfl⟩, ⟨h0, rfl⟩ | ⟨h0, p, rfl, hp, hsz⟩⟩
  · have hq : (spansE t n l != 0) = true := by simpa using h0
    have H0 := Lib.hid h0; have HC := Lib.hid (grow_chg w x); clear h0
    go_wp2_with fail
    go_ret2
    exact isPost_err H0.out HC.out
  · have H0 := Lib.hid h0; have HV := Lib.hid (valid_of h0); have HP := Lib.hid hp; have HC := Lib.hid (grow_chg w x)
    clear h0 hp
    generalize w.grow x = W at HC HP ⊢
    go_wp2_with fail
    refine (is_any l a cap b off X ar c br bo t n p W HV.out (HS.out.chg HC.out (fun x => x)) HA.out (HX.out.chg HC.out (fun x => x)) HAR.out hl HP.out).mono ?_
    rintro e w1 ⟨b1, rfl, hb1, hc1⟩
    have HB1 := Lib.hid hb1; have HC1 := Lib.hid (HC.out.trans hc1 (fun _ x => x.elim))
    clear hb1 hc1
    go_wp2_with fail
    go_ret2
    exact isPost_ok H0.out HB1.out HC1.out
end Go.Proofs.Ytgamekcjjpjnnaa
