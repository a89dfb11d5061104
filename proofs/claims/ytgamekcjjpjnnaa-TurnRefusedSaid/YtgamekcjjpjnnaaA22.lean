/- Lists of hours judged by the program: listed, is, Is. Their conditions are their premises. -/
import Derived.Test.YtgamekcjjpjnnaaA10
set_option linter.unusedVariables false
namespace Go
instance : Nonempty Ext := ⟨⟨#[], 0⟩⟩
end Go
namespace Go.Proofs.Ytgamekcjjpjnnaa
open Go.RowKit

def slackV (T : Int) (s : Sp) (X : List Int) : Int := (hr X s.dst.toNat - hr X s.src.toNat - s.lo) % T
def inHours (T N : Int) (X : List Int) : Prop := (X.length : Int) = N ∧ ∀ x ∈ X, 0 ≤ x ∧ x < T

theorem hr_get {X : List Int} {i : Nat} (h : i < X.length) : X[i] = hr X i := by unfold hr; rw [List.getD_eq_getElem?_getD, List.getElem?_eq_getElem h]; rfl
theorem inHours_hr {T N : Int} {X : List Int} (h : inHours T N X) {i : Nat} (hi : i < X.length) : 0 ≤ hr X i ∧ hr X i < T := by rw [← hr_get hi]; exact h.2 _ (List.getElem_mem hi)

theorem fn79_any (h : Int) (T N : Int) (v : Value) (bp p : Nat) (w : World) (hb : w.cell? ⟨bp, 0, none⟩ = some (.pointer (some ⟨p, 0, none⟩))) (hp : PlanAt w p T N v) (b : Bool) (hbb : b = decide (h < 0 ∨ T ≤ h)) :
    Calls Try.prog 79 #[.int .i64 h, .pointer (some ⟨bp, 0, none⟩)] w fun e w' => e = .returned (.bool b) ∧ w' = w := by
  have h1 := hp.1
  have HB := Lib.hid hbb
  clear hbb hp
  by_cases h0 : h < 0
  · have d0 : decide (h < 0) = true := by simpa using h0
    go_enter Try.func79, Try.ntmps79
    go_wp2
    go_ret
    exact ⟨ret_bool (by rw [HB.out]; simp [h0]), rfl⟩
  · have d0 : decide (h < 0) = false := by simpa using h0
    by_cases h2 : T ≤ h
    · have d1 : decide (T ≤ h) = true := by simpa using h2
      go_enter Try.func79, Try.ntmps79
      go_wp2
      go_ret
      exact ⟨ret_bool (by rw [HB.out]; simp [h2]), rfl⟩
    · have d1 : decide (T ≤ h) = false := by simpa using h2
      go_enter Try.func79, Try.ntmps79
      go_wp2
      go_ret
      exact ⟨ret_bool (by rw [HB.out]; simp; omega), rfl⟩

/-- The place that IndexFunc finds. -/
def FoundAt (P : Prop) (w : World) (e : Ending) (w' : World) : Prop := ∃ i : Int, e = .returned (.int .i64 i) ∧ (0 ≤ i ↔ P) ∧ Chg (fun _ => False) w w'

theorem index_ints (X : List Int) (ar : Option Addr) (c : Nat) (T N : Int) (v : Value) (bp p br off : Nat) (w : World) (hX : IntsAt w br off X) (hl : X.length ≤ 1000) (har : X = [] ∨ ar = some ⟨br, off, none⟩)
    (hb : w.cell? ⟨bp, 0, none⟩ = some (.pointer (some ⟨p, 0, none⟩))) (hp : PlanAt w p T N v) :
    Calls Try.prog 82 #[.slice ar X.length c, .func (.func 79) #[] #[.pointer (some ⟨bp, 0, none⟩)]] w (FoundAt (∃ x ∈ X, x < 0 ∨ T ≤ x) w) := by
  have HX := Lib.hid hX; have HAR := Lib.hid har; have HP := Lib.hid hp; have HBP := Lib.hid hb
  clear hX har hp hb
  go_enter Try.func82, Try.ntmps82
  go_wp2
  go_loop [8] (fun iv => ∃ i : Nat, i ≤ X.length ∧ iv = .int .i64 i ∧ ∀ j (h : j < X.length), j < i → ¬ (X[j] < 0 ∨ T ≤ X[j])) (fun iv => X.length - (intOf iv).toNat)
  case atStart => exact ⟨0, by omega, rfl, fun j h hj => by omega⟩
  case round =>
    obtain ⟨i, hi, rfl, hno⟩ := hrel
    have HNO := Lib.hid hno
    clear hno
    by_cases hlt : i < X.length
    · have hne : ar = some ⟨br, off, none⟩ := HAR.out.resolve_left (by intro h; simp [h] at hlt)
      subst hne
      have gk := HX.out i hlt
      have HIN := Lib.hid (List.getElem_mem hlt)
      have hxx : ∃ x, X[i] = x := ⟨_, rfl⟩
      obtain ⟨x, hx⟩ := hxx
      rw [hx] at gk
      by_cases hb : x < 0 ∨ T ≤ x
      · have HB := Lib.hid hb; have HXX := Lib.hid hx
        clear hb hx
        go_wp2_with fail
        refine (fn79_any x T N v bp p w HBP.out HP.out true (by symm; rw [decide_eq_true_eq]; exact HB.out)).mono ?_
        rintro e w' ⟨rfl, rfl⟩
        go_wp2_with fail
        go_ret
        exact ⟨i, rfl, ⟨fun _ => ⟨x, by rw [← HXX.out]; exact HIN.out, HB.out⟩, fun _ => by omega⟩, Chg.refl _ _⟩
      · have HB := Lib.hid hb; have HXX := Lib.hid hx
        clear hb hx
        go_wp2_with fail
        refine (fn79_any x T N v bp p w HBP.out HP.out false (by symm; rw [decide_eq_false_iff_not]; exact HB.out)).mono ?_
        rintro e w' ⟨rfl, rfl⟩
        go_wp2_with fail
        go_round
        case rel => exact ⟨i + 1, by omega, by go_num, fun j h hj => by
          rcases Nat.lt_succ_iff_lt_or_eq.1 hj with h' | rfl
          · exact HNO.out j h h'
          · rw [HXX.out]; exact HB.out⟩
        case measure => simp [intOf]; omega
    · go_wp2_with fail
      go_ret
      refine ⟨-1, rfl, ⟨fun h => by omega, fun ⟨x, hx, hb⟩ => ?_⟩, Chg.refl _ _⟩
      obtain ⟨j, hj, rfl⟩ := List.getElem_of_mem hx
      exact absurd hb (HNO.out j hj (by omega))

/-- A bool that says whether something is so, in a world that has grown. -/
def BPost (P : Prop) (w : World) (e : Ending) (w' : World) : Prop := ∃ b : Bool, e = .returned (.bool b) ∧ (b = true ↔ P) ∧ Chg (fun _ => False) w w'

theorem contains_ints (X : List Int) (ar : Option Addr) (c : Nat) (T N : Int) (v : Value) (bp p br off : Nat) (w : World) (hX : IntsAt w br off X) (hl : X.length ≤ 1000) (har : X = [] ∨ ar = some ⟨br, off, none⟩)
    (hb : w.cell? ⟨bp, 0, none⟩ = some (.pointer (some ⟨p, 0, none⟩))) (hp : PlanAt w p T N v) :
    Calls Try.prog 78 #[.slice ar X.length c, .func (.func 79) #[] #[.pointer (some ⟨bp, 0, none⟩)]] w (BPost (∃ x ∈ X, x < 0 ∨ T ≤ x) w) := by
  have HC := Lib.hid (index_ints X ar c T N v bp p br off w hX hl har hb hp)
  clear hX har hb hp
  go_enter Try.func78, Try.ntmps78
  go_wp2_with fail
  refine HC.out.mono ?_
  rintro e w' ⟨i, rfl, hi, hc⟩
  have HI := Lib.hid hi; have HG := Lib.hid hc
  clear hi hc
  go_wp2_with fail
  go_ret
  exact ⟨decide (0 ≤ i), rfl, by rw [decide_eq_true_eq]; exact HI.out, HG.out⟩

theorem listed_any (X : List Int) (ar : Option Addr) (c : Nat) (T N : Int) (v : Value) (p br off : Nat) (w : World) (hX : IntsAt w br off X) (hl : X.length ≤ 1000) (har : X = [] ∨ ar = some ⟨br, off, none⟩) (hp : PlanAt w p T N v) :
    Calls Try.prog 62 #[.pointer (some ⟨p, 0, none⟩), .slice ar X.length c] w (BPost (inHours T N X) w) := by
  have hmf : ∀ (fn : Fn) (first cap : Array Value) (w : World), (Instr.makeFunc fn first cap).run Try.prog w = .ok (.func fn first cap) w := fun _ _ _ _ => rfl
  have hc0 : Chg (fun _ => False) w (w.alloc (Obj.cells #[Value.pointer (some ⟨p, 0, none⟩)] 54)) := (Chg.refl _ w).alloc _
  have hb0 := (Blk.new w #[Value.pointer (some ⟨p, 0, none⟩)] 54).cell_some (i := 0) rfl
  have HC := Lib.hid (contains_ints X ar c T N v w.heap.size p br off _ (hX.chg hc0 (fun x => x)) hl har hb0 (hp.chg hc0 (fun x => x)))
  have HC0 := Lib.hid hc0
  have h1 := hp.2.1
  have hpb : p < w.heap.size := World.cell_lt h1
  clear hX har hp hc0 hb0
  by_cases hln : (X.length : Int) = N
  · have dl : ((X.length : Int) == N) = true := by simpa using hln
    have HLN := Lib.hid hln; clear hln
    go_enter Try.func62, Try.ntmps62
    go_wp2_with fail
    refine HC.out.mono ?_
    rintro e w' ⟨b, rfl, hb, hc⟩
    have HB := Lib.hid hb; have HG := Lib.hid (HC0.out.trans hc (fun _ x => x.elim))
    clear hb hc HC
    go_wp2_with fail
    go_ret
    refine ⟨!b, rfl, ?_, HG.out⟩
    have hb := HB.out
    unfold inHours
    rw [Bool.not_eq_true', ← Bool.not_eq_true, hb]
    exact ⟨fun h => ⟨HLN.out, fun x hx => by
      constructor
      · exact Int.not_lt.1 fun h0 => h ⟨x, hx, .inl h0⟩
      · exact Int.not_le.1 fun h0 => h ⟨x, hx, .inr h0⟩⟩, fun h ⟨x, hx, h0⟩ => by have := h.2 x hx; omega⟩
  · have dl : ((X.length : Int) == N) = false := by simpa using hln
    have HLN := Lib.hid hln; clear hln HC
    go_enter Try.func62, Try.ntmps62
    go_wp2_with fail
    go_ret
    exact ⟨false, rfl, ⟨fun h => (by cases h), fun h => absurd h.1 HLN.out⟩, HC0.out⟩

set_option maxRecDepth 100000 in
set_option maxHeartbeats 1000000 in
theorem fn76_any (s : Sp) (X : List Int) (c : Nat) (T N : Int) (v : Value) (bp bh p br off : Nat) (w : World) (ht : 1 ≤ T) (ht2 : T ≤ 24) (hX : IntsAt w br off X) (hH : inHours T N X) (hN : N ≤ 6)
    (h1 : 0 ≤ s.src ∧ s.src < N ∧ 0 ≤ s.dst ∧ s.dst < N ∧ s.src ≠ s.dst ∧ -600 ≤ s.lo ∧ s.lo ≤ 600 ∧ s.lo ≤ s.hi ∧ s.hi ≤ s.lo + T - 1)
    (hb : w.cell? ⟨bp, 0, none⟩ = some (.pointer (some ⟨p, 0, none⟩))) (hbh : w.cell? ⟨bh, 0, none⟩ = some (.slice (some ⟨br, off, none⟩) X.length c)) (hp : PlanAt w p T N v) :
    Calls Try.prog 76 #[.agg #[.int .i64 s.src, .int .i64 s.dst, .int .i64 s.lo, .int .i64 s.hi], .pointer (some ⟨bp, 0, none⟩), .pointer (some ⟨bh, 0, none⟩)] w fun e w' => e = .returned (.bool (decide (s.hi - s.lo < slackV T s X))) ∧ ∃ x, w' = w.grow x := by
  obtain ⟨f, g, lo, hi⟩ := s
  dsimp only at h1 ⊢
  have hlen := hH.1
  have hx := inHours_hr hH (i := f.toNat) (by omega)
  have hy := inHours_hr hH (i := g.toNat) (by omega)
  have hcx := hX f.toNat (by omega)
  have hcy := hX g.toNat (by omega)
  rw [hr_get] at hcx hcy
  obtain ⟨x, hxx⟩ : ∃ x, hr X f.toNat = x := ⟨_, rfl⟩
  obtain ⟨y, hyy⟩ : ∃ y, hr X g.toNat = y := ⟨_, rfl⟩
  rw [hxx] at hx hcx
  rw [hyy] at hy hcy
  have HSV := Lib.hid (show slackV T ⟨f, g, lo, hi⟩ X = (y - x - lo) % T by unfold slackV; rw [hxx, hyy])
  have HH := Lib.hid hlen
  have hc0 : Chg (fun _ => False) w (w.alloc (Obj.cells #[.int .i64 f, .int .i64 g, .int .i64 lo, .int .i64 hi] 32)) := (Chg.refl _ w).alloc _
  have HC0 := Lib.hid hc0
  have b0 := Blk.new w #[.int .i64 f, .int .i64 g, .int .i64 lo, .int .i64 hi] 32
  have hX0 := Lib.hid (hc0.cell_some hcx (fun x => x)); have hY0 := Lib.hid (hc0.cell_some hcy (fun x => x)); have hp0 := Lib.hid (hc0.cell_some hp.1 (fun x => x))
  have g0 := World.grow_cell (b0.cell_some (i := 0) rfl)
  have g1 := World.grow_cell (b0.cell_some (i := 1) rfl)
  have g2 := World.grow_cell (b0.cell_some (i := 2) rfl)
  have g3 := World.grow_cell (b0.cell_some (i := 3) rfl)
  have g4 := World.grow_cell (hc0.cell_some hb (fun x => x))
  have g5 := World.grow_cell (hc0.cell_some hbh (fun x => x))
  clear hxx hyy hH hlen hc0 b0 hX hcx hcy hb hbh hp
  go_enter Try.func76, Try.ntmps76
  go_wp2_with fail
  generalize (w.alloc (Obj.cells #[.int .i64 f, .int .i64 g, .int .i64 lo, .int .i64 hi] 32)) = W at *
  refine wp_region_grow_lit (by kernel_rfl) (by kernel_rfl) ?_
  have hXg := HH.out
  have k1 : f < X.length := by omega
  have k2 : g < X.length := by omega
  repeat (go_big_quiet_step ((go_at_call 64; exact Calls.grow_of (slack_any T f g lo hi x y p 0 br off X.length c _ (by omega) (by omega) (by omega) (by omega) (by omega) (by omega) k1 k2 (by omega) (by omega) (by omega) (World.grow_cell hp0.out _) (World.grow_cell hX0.out _) (World.grow_cell hY0.out _)))))
  refine wpQuiet_nil ?_
  intro _ hw'
  obtain ⟨nq, hw''⟩ := hw'
  subst hw''
  have HG := Lib.hid (HC0.out.grow nq)
  go_wp2
  go_ret
  exact ⟨ret_bool (by rw [HSV.out]), World.grow_of_below HG.out.below⟩
end Go.Proofs.Ytgamekcjjpjnnaa
