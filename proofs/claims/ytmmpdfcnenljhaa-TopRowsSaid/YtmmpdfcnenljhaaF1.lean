/- Gardens: the errors of one, of the program and of the reference, walked. Their conditions are their premises. -/
import Derived.Test.YtmmpdfcnenljhaaBase
set_option linter.unusedVariables false
namespace Go.Proofs.Ytmmpdfcnenljhaa
open Go.RowKit

/-- A fence. -/
structure Fe where
  a : Int
  b : Int
  deriving DecidableEq, Inhabited
def Fe.bad (f : Fe) (n : Int) : Prop := f.a < 0 ∨ n ≤ f.a ∨ f.b < 0 ∨ n ≤ f.b
instance (f : Fe) (n : Int) : Decidable (f.bad n) := by unfold Fe.bad; infer_instance
def Fe.I64 (f : Fe) : Prop := Ytmmpdfcnenljhaa.I64 f.a ∧ Ytmmpdfcnenljhaa.I64 f.b
/-- The cells of a list of fences. -/
def FencesAt (w : World) (b off : Nat) (l : List Fe) : Prop := ∀ k (h : k < l.length), w.cell? ⟨b, off + k * 2, none⟩ = some (.int .i64 l[k].a) ∧ w.cell? ⟨b, off + k * 2 + 1, none⟩ = some (.int .i64 l[k].b)
theorem FencesAt.chg {w w' : World} {b off : Nat} {l : List Fe} {S : Nat → Prop} (h : FencesAt w b off l) (hc : Chg S w w') (hn : ¬ S b) : FencesAt w' b off l :=
  fun k hk => ⟨hc.cell_some (h k hk).1 hn, hc.cell_some (h k hk).2 hn⟩

/-- The errors of a garden. -/
def gardenE (n : Int) (l : List Fe) : Int := if n < 1 ∨ 8 < n then 2 else if 14 < l.length then 3 else if ∃ f ∈ l, f.bad n then 2 else 0
structure Valid (n : Int) (l : List Fe) : Prop where
  n1 : 1 ≤ n
  n2 : n ≤ 8
  len : l.length ≤ 14
  ok : ∀ f ∈ l, 0 ≤ f.a ∧ f.a < n ∧ 0 ≤ f.b ∧ f.b < n
theorem valid_of {n : Int} {l : List Fe} (h : gardenE n l = 0) : Valid n l := by
  unfold gardenE at h
  by_cases h1 : n < 1 ∨ 8 < n
  · rw [if_pos h1] at h; cases h
  · rw [if_neg h1] at h
    by_cases h2 : 14 < l.length
    · rw [if_pos h2] at h; cases h
    · rw [if_neg h2] at h
      by_cases h3 : ∃ f ∈ l, f.bad n
      · rw [if_pos h3] at h; cases h
      · refine ⟨by omega, by omega, by omega, fun f hf => ?_⟩
        have h4 : ¬ f.bad n := fun hb => h3 ⟨f, hf, hb⟩
        unfold Fe.bad at h4
        omega
theorem gardenE_bad {n : Int} {l : List Fe} (h1 : 1 ≤ n) (h2 : n ≤ 8) (hl : l.length ≤ 14) (h : ∃ f ∈ l, f.bad n) : gardenE n l = 2 := by
  unfold gardenE
  rw [if_neg (by omega), if_neg (by omega), if_pos h]
theorem gardenE_good {n : Int} {l : List Fe} (h1 : 1 ≤ n) (h2 : n ≤ 8) (hl : l.length ≤ 14) (h : ¬ ∃ f ∈ l, f.bad n) : gardenE n l = 0 := by
  unfold gardenE
  rw [if_neg (by omega), if_neg (by omega), if_neg h]

/-- A bool that says whether something is so, in a world that has grown. -/
def BPost (P : Prop) (w : World) (e : Ending) (w' : World) : Prop := ∃ b : Bool, e = .returned (.bool b) ∧ (b = true ↔ P) ∧ Chg (fun _ => False) w w'
/-- The place that IndexFunc finds. -/
def FoundAt (P : Prop) (w : World) (e : Ending) (w' : World) : Prop := ∃ i : Int, e = .returned (.int .i64 i) ∧ (0 ≤ i ↔ P) ∧ Chg (fun _ => False) w w'

theorem few_any (a : Option Addr) (n c : Nat) (w : World) : Calls Try.prog 10 #[.slice a n c] w fun e w' => e = .returned (.bool (decide (n ≤ 40))) ∧ w' = w := by
  have e : decide ((n : Int) ≤ 40) = decide (n ≤ 40) := by rw [decide_eq_decide]; omega
  go_enter Try.func10, Try.ntmps10
  go_wp2
  go_ret
  exact ⟨ret_bool (by first | exact e | rfl), rfl⟩

set_option maxRecDepth 100000 in
set_option maxHeartbeats 1000000 in
theorem bad_any (f : Fe) (n : Int) (bp : Nat) (w : World) (hb : w.cell? ⟨bp, 0, none⟩ = some (.int .i64 n)) :
    Calls Try.prog 46 #[.agg #[.int .i64 f.a, .int .i64 f.b], .pointer (some ⟨bp, 0, none⟩)] w (BPost (f.bad n) w) := by
  have hbl := World.cell_lt hb
  have hcases : (f.a < 0) ∨ (¬ f.a < 0 ∧ n ≤ f.a) ∨ (¬ f.a < 0 ∧ ¬ n ≤ f.a ∧ f.b < 0) ∨ (¬ f.a < 0 ∧ ¬ n ≤ f.a ∧ ¬ f.b < 0 ∧ n ≤ f.b) ∨ (¬ f.a < 0 ∧ ¬ n ≤ f.a ∧ ¬ f.b < 0 ∧ ¬ n ≤ f.b) := by omega
  have HCC := Lib.hid hcases
  clear hcases
  rcases HCC.out with h | h | h | h | h
  · have d0 : decide (f.a < 0) = true := (by first | (rw [decide_eq_true_eq]; omega) | (rw [decide_eq_false_iff_not]; omega))
    have HH := Lib.hid h
    clear h HCC
    go_enter Try.func46, Try.ntmps46
    go_wp2_with fail
    go_ret
    exact ⟨true, rfl, ⟨fun h => (by have := HH.out; unfold Fe.bad; omega), fun h => rfl⟩, (Chg.refl _ _).alloc _⟩
  · have d0 : decide (f.a < 0) = false := (by first | (rw [decide_eq_true_eq]; omega) | (rw [decide_eq_false_iff_not]; omega)); have d1 : decide (n ≤ f.a) = true := (by first | (rw [decide_eq_true_eq]; omega) | (rw [decide_eq_false_iff_not]; omega))
    have HH := Lib.hid h
    clear h HCC
    go_enter Try.func46, Try.ntmps46
    go_wp2_with fail
    go_ret
    exact ⟨true, rfl, ⟨fun h => (by have := HH.out; unfold Fe.bad; omega), fun h => rfl⟩, (Chg.refl _ _).alloc _⟩
  · have d0 : decide (f.a < 0) = false := (by first | (rw [decide_eq_true_eq]; omega) | (rw [decide_eq_false_iff_not]; omega)); have d1 : decide (n ≤ f.a) = false := (by first | (rw [decide_eq_true_eq]; omega) | (rw [decide_eq_false_iff_not]; omega)); have d2 : decide (f.b < 0) = true := (by first | (rw [decide_eq_true_eq]; omega) | (rw [decide_eq_false_iff_not]; omega))
    have HH := Lib.hid h
    clear h HCC
    go_enter Try.func46, Try.ntmps46
    go_wp2_with fail
    go_ret
    exact ⟨true, rfl, ⟨fun h => (by have := HH.out; unfold Fe.bad; omega), fun h => rfl⟩, (Chg.refl _ _).alloc _⟩
  · have d0 : decide (f.a < 0) = false := (by first | (rw [decide_eq_true_eq]; omega) | (rw [decide_eq_false_iff_not]; omega)); have d1 : decide (n ≤ f.a) = false := (by first | (rw [decide_eq_true_eq]; omega) | (rw [decide_eq_false_iff_not]; omega)); have d2 : decide (f.b < 0) = false := (by first | (rw [decide_eq_true_eq]; omega) | (rw [decide_eq_false_iff_not]; omega)); have d3 : decide (n ≤ f.b) = true := (by first | (rw [decide_eq_true_eq]; omega) | (rw [decide_eq_false_iff_not]; omega))
    have HH := Lib.hid h
    clear h HCC
    go_enter Try.func46, Try.ntmps46
    go_wp2_with fail
    go_ret
    exact ⟨true, rfl, ⟨fun h => (by have := HH.out; unfold Fe.bad; omega), fun h => rfl⟩, (Chg.refl _ _).alloc _⟩
  · have d0 : decide (f.a < 0) = false := (by first | (rw [decide_eq_true_eq]; omega) | (rw [decide_eq_false_iff_not]; omega)); have d1 : decide (n ≤ f.a) = false := (by first | (rw [decide_eq_true_eq]; omega) | (rw [decide_eq_false_iff_not]; omega)); have d2 : decide (f.b < 0) = false := (by first | (rw [decide_eq_true_eq]; omega) | (rw [decide_eq_false_iff_not]; omega)); have d3 : decide (n ≤ f.b) = false := (by first | (rw [decide_eq_true_eq]; omega) | (rw [decide_eq_false_iff_not]; omega))
    have HH := Lib.hid h
    clear h HCC
    go_enter Try.func46, Try.ntmps46
    go_wp2_with fail
    go_ret
    exact ⟨false, rfl, ⟨fun h => (by cases h), fun h => (by have := HH.out; unfold Fe.bad at h; omega)⟩, (Chg.refl _ _).alloc _⟩

set_option maxRecDepth 100000 in
set_option maxHeartbeats 1000000 in
theorem index_bad (l : List Fe) (a : Option Addr) (c : Nat) (n : Int) (bp b off : Nat) (w : World) (hX : FencesAt w b off l) (hl : l.length ≤ 1000) (ha : l = [] ∨ a = some ⟨b, off, none⟩)
    (hb : w.cell? ⟨bp, 0, none⟩ = some (.int .i64 n)) :
    Calls Try.prog 67 #[.slice a l.length c, .func (.func 46) #[] #[.pointer (some ⟨bp, 0, none⟩)]] w (FoundAt (∃ f ∈ l, f.bad n) w) := by
  have HX := Lib.hid hX; have HA := Lib.hid ha; have HBP := Lib.hid hb
  clear hX ha hb
  go_enter Try.func67, Try.ntmps67
  go_wp2
  go_loopg [8] l.length (fun gm iv wr => ∃ i : Nat, i ≤ l.length ∧ gm = l.length - i ∧ iv = .int .i64 i ∧ (∀ j (h : j < l.length), j < i → ¬ l[j].bad n) ∧ Chg (fun _ => False) w wr)
  case atStart => exact ⟨0, by omega, by omega, rfl, fun j h hj => by omega, Chg.refl _ w⟩
  case round =>
    obtain ⟨i, hi, rfl, rfl, hno, hcg⟩ := hrel
    have HNO := Lib.hid hno; have HCG := Lib.hid hcg
    clear hno hcg
    by_cases hlt : i < l.length
    · have hne : a = some ⟨b, off, none⟩ := HA.out.resolve_left (by intro h; simp [h] at hlt)
      subst hne
      obtain ⟨c0, c1⟩ := HX.out.chg HCG.out (fun x => x) i hlt
      have HIN := Lib.hid (List.getElem_mem hlt)
      obtain ⟨f, hf⟩ : ∃ f, l[i] = f := ⟨_, rfl⟩
      rw [hf] at c0 c1
      have HFF := Lib.hid hf
      clear hf
      go_wp2_with fail
      refine (bad_any f n bp wr (HCG.out.cell_some HBP.out (fun x => x))).mono ?_
      rintro e w' ⟨bb, rfl, hbb, hc⟩
      have HB := Lib.hid hbb; have HC := Lib.hid (HCG.out.trans hc (fun _ x => x.elim))
      clear hbb hc c0 c1
      cases bb with
      | true =>
        go_wp2_with fail
        go_ret
        exact ⟨i, rfl, ⟨fun _ => ⟨f, by rw [← HFF.out]; exact HIN.out, HB.out.1 (by simp)⟩, fun _ => by omega⟩, HC.out⟩
      | false =>
        go_wp2_with fail
        go_roundg (l.length - (i + 1))
        case measure => omega
        case rel => exact ⟨i + 1, by omega, rfl, by go_num, (fun j h hj => by
          rcases Nat.lt_succ_iff_lt_or_eq.1 hj with h' | rfl
          · exact HNO.out j h h'
          · rw [HFF.out]; intro hb; have := HB.out.2 hb; simp at this), HC.out⟩
    · go_wp2_with fail
      go_ret
      refine ⟨-1, rfl, ⟨fun h => by omega, fun ⟨x, hx, hb⟩ => ?_⟩, HCG.out⟩
      obtain ⟨j, hj, rfl⟩ := List.getElem_of_mem hx
      exact absurd hb (HNO.out j hj (by omega))

theorem contains_bad (l : List Fe) (a : Option Addr) (c : Nat) (n : Int) (bp b off : Nat) (w : World) (hX : FencesAt w b off l) (hl : l.length ≤ 1000) (ha : l = [] ∨ a = some ⟨b, off, none⟩)
    (hb : w.cell? ⟨bp, 0, none⟩ = some (.int .i64 n)) :
    Calls Try.prog 45 #[.slice a l.length c, .func (.func 46) #[] #[.pointer (some ⟨bp, 0, none⟩)]] w (BPost (∃ f ∈ l, f.bad n) w) := by
  have HC := Lib.hid (index_bad l a c n bp b off w hX hl ha hb)
  clear hX ha hb
  go_enter Try.func45, Try.ntmps45
  go_wp2_with fail
  refine HC.out.mono ?_
  rintro e w' ⟨i, rfl, hi, hc⟩
  have HI := Lib.hid hi; have HG := Lib.hid hc
  clear hi hc
  go_wp2_with fail
  go_ret
  exact ⟨_, rfl, by rw [decide_eq_true_eq]; exact HI.out, HG.out⟩

/-- A garden in memory. -/
def GardenAt (w : World) (p : Nat) (n : Int) (v : Value) : Prop := w.cell? ⟨p, 0, none⟩ = some (.int .i64 n) ∧ w.cell? ⟨p, 1, none⟩ = some v
theorem GardenAt.chg {w w' : World} {p : Nat} {n : Int} {v : Value} {S : Nat → Prop} (h : GardenAt w p n v) (hc : Chg S w w') (hn : ¬ S p) : GardenAt w' p n v := ⟨hc.cell_some h.1 hn, hc.cell_some h.2 hn⟩
def OfPost (n : Int) (l : List Fe) (v : Value) (w : World) (e : Ending) (w' : World) : Prop :=
  Chg (fun _ => False) w w' ∧ (gardenE n l ≠ 0 ∧ e = .returned (.tuple #[.pointer none, .int .i64 (gardenE n l)]) ∨ gardenE n l = 0 ∧ ∃ p, e = .returned (.tuple #[.pointer (some ⟨p, 0, none⟩), .int .i64 0]) ∧ GardenAt w' p n v)

set_option maxRecDepth 100000 in
set_option maxHeartbeats 1000000 in
theorem of_any (n : Int) (l : List Fe) (a : Option Addr) (cap b off : Nat) (w : World) (hs : FencesAt w b off l) (ha : l = [] ∨ a = some ⟨b, off, none⟩) :
    Calls Try.prog 21 #[.int .i64 n, .slice a l.length cap] w (OfPost n l (.slice a l.length cap) w) := by
  have hmf : ∀ (fn : Fn) (first cap : Array Value) (w : World), (Instr.makeFunc fn first cap).run Try.prog w = .ok (.func fn first cap) w := fun _ _ _ _ => rfl
  have HS := Lib.hid hs; have HA := Lib.hid ha
  clear hs ha
  have HC0 := Lib.hid ((Chg.refl (fun _ => False) w).alloc (.cells #[.int .i64 n] 3))
  by_cases h1 : n < 1
  · have d1 : decide (n < 1) = true := by simpa using h1
    have HE := Lib.hid (show gardenE n l = 2 by unfold gardenE; rw [if_pos (.inl h1)])
    go_enter Try.func21, Try.ntmps21
    go_wp2_with fail
    go_ret2
    exact ⟨HC0.out, .inl ⟨by rw [HE.out]; decide, by rw [HE.out]; rfl⟩⟩
  · have d1 : decide (n < 1) = false := by simpa using h1
    by_cases h2 : 8 < n
    · have d2 : decide (8 < n) = true := by simpa using h2
      have HE := Lib.hid (show gardenE n l = 2 by unfold gardenE; rw [if_pos (.inr h2)])
      go_enter Try.func21, Try.ntmps21
      go_wp2_with fail
      go_ret2
      exact ⟨HC0.out, .inl ⟨by rw [HE.out]; decide, by rw [HE.out]; rfl⟩⟩
    · have d2 : decide (8 < n) = false := by simpa using h2
      by_cases h3 : 14 < l.length
      · have d3 : decide (14 < (l.length : Int)) = true := by rw [decide_eq_true_eq]; omega
        have HE := Lib.hid (show gardenE n l = 3 by unfold gardenE; rw [if_neg (by omega), if_pos h3])
        go_enter Try.func21, Try.ntmps21
        go_wp2_with fail
        go_ret2
        exact ⟨HC0.out, .inl ⟨by rw [HE.out]; decide, by rw [HE.out]; rfl⟩⟩
      · have d3 : decide (14 < (l.length : Int)) = false := by rw [decide_eq_false_iff_not]; omega
        have hBL := Blk.new w #[.int .i64 n] 3
        obtain ⟨bp, hbp⟩ : ∃ bp, w.heap.size = bp := ⟨_, rfl⟩
        rw [hbp] at hBL
        have HBL := Lib.hid hBL
        clear hBL
        go_enter Try.func21, Try.ntmps21
        go_wp2_with fail
        clear hbp
        generalize w.alloc (.cells #[.int .i64 n] 3) = W at HC0 HBL ⊢
        refine (contains_bad l a cap n bp b off W (HS.out.chg HC0.out (fun x => x)) (by omega) HA.out (HBL.out.cell_some rfl)).mono ?_
        rintro e w1 ⟨bb, rfl, hbb, hc1⟩
        have HB := Lib.hid hbb; have HC1 := Lib.hid (HC0.out.trans hc1 (fun _ x => x.elim)); have HBL1 := Lib.hid (hc1.blk HBL.out (fun x => x))
        clear hbb hc1
        have q0 := HBL1.out.cell_some (i := 0) rfl
        cases bb with
        | true =>
          have HE := Lib.hid (gardenE_bad (by omega) (by omega) (by omega) (HB.out.1 (by simp)))
          go_wp2_with fail
          go_ret2
          exact ⟨HC1.out, .inl ⟨by rw [HE.out]; decide, by rw [HE.out]; rfl⟩⟩
        | false =>
          have HE := Lib.hid (gardenE_good (n := n) (l := l) (by omega) (by omega) (by omega) (fun h => by have := HB.out.2 h; simp at this))
          go_wp2_with fail
          go_ret2
          have hb2 := Blk.new w1 #[.int .i64 n, .slice a l.length cap] 75
          exact ⟨HC1.out.alloc _, .inr ⟨HE.out, _, rfl, hb2.cell_some rfl, hb2.cell_some rfl⟩⟩

set_option maxRecDepth 100000 in
set_option maxHeartbeats 1000000 in
theorem Garden_any (n : Int) (l : List Fe) (a : Option Addr) (cap b off : Nat) (w : World) (hs : FencesAt w b off l) (ha : l = [] ∨ a = some ⟨b, off, none⟩) :
    Calls Try.prog 36 #[.int .i64 n, .slice a l.length cap] w fun e w' => e = .returned (.int .i64 (gardenE n l)) ∧ Chg (fun _ => False) w w' := by
  have HS := Lib.hid hs; have HA := Lib.hid ha
  clear hs ha
  by_cases h1 : n < 1
  · have d1 : decide (n < 1) = true := by simpa using h1
    have HE := Lib.hid (show gardenE n l = 2 by unfold gardenE; rw [if_pos (.inl h1)])
    go_enter Try.func36, Try.ntmps36
    go_wp2_with fail
    go_ret
    exact ⟨by rw [HE.out]; rfl, Chg.refl _ _⟩
  · have d1 : decide (n < 1) = false := by simpa using h1
    by_cases h2 : 8 < n
    · have d2 : decide (8 < n) = true := by simpa using h2
      have HE := Lib.hid (show gardenE n l = 2 by unfold gardenE; rw [if_pos (.inr h2)])
      go_enter Try.func36, Try.ntmps36
      go_wp2_with fail
      go_ret
      exact ⟨by rw [HE.out]; rfl, Chg.refl _ _⟩
    · have d2 : decide (8 < n) = false := by simpa using h2
      by_cases h3 : 14 < l.length
      · have d3 : decide (14 < (l.length : Int)) = true := by rw [decide_eq_true_eq]; omega
        have HE := Lib.hid (show gardenE n l = 3 by unfold gardenE; rw [if_neg (by omega), if_pos h3])
        go_enter Try.func36, Try.ntmps36
        go_wp2_with fail
        go_ret
        exact ⟨by rw [HE.out]; rfl, Chg.refl _ _⟩
      · have d3 : decide (14 < (l.length : Int)) = false := by rw [decide_eq_false_iff_not]; omega
        go_enter Try.func36, Try.ntmps36
        go_wp2_with fail
        go_loopg [5] l.length (fun gm iv wr => ∃ i : Nat, i ≤ l.length ∧ gm = l.length - i ∧ iv = .int .i64 i ∧ (∀ j (h : j < l.length), j < i → ¬ l[j].bad n) ∧ Chg (fun _ => False) w wr)
        case atStart => exact ⟨0, by omega, by omega, rfl, fun j h hj => by omega, Chg.refl _ w⟩
        case round =>
          obtain ⟨i, hi, rfl, rfl, hno, hcg⟩ := hrel
          have HNO := Lib.hid hno; have HCG := Lib.hid hcg
          clear hno hcg
          by_cases hlt : i < l.length
          · have hne : a = some ⟨b, off, none⟩ := HA.out.resolve_left (by intro h; simp [h] at hlt)
            subst hne
            obtain ⟨c0, c1⟩ := HS.out.chg HCG.out (fun x => x) i hlt
            have HIN := Lib.hid (List.getElem_mem hlt)
            obtain ⟨f, hf⟩ : ∃ f, l[i] = f := ⟨_, rfl⟩
            rw [hf] at c0 c1
            have HFF := Lib.hid hf
            clear hf
            have hcases : (f.a < 0) ∨ (¬ f.a < 0 ∧ n ≤ f.a) ∨ (¬ f.a < 0 ∧ ¬ n ≤ f.a ∧ f.b < 0) ∨ (¬ f.a < 0 ∧ ¬ n ≤ f.a ∧ ¬ f.b < 0 ∧ n ≤ f.b) ∨ (¬ f.a < 0 ∧ ¬ n ≤ f.a ∧ ¬ f.b < 0 ∧ ¬ n ≤ f.b) := by omega
            have HCC := Lib.hid hcases
            clear hcases
            rcases HCC.out with h | h | h | h | h
            · have d0 : decide (f.a < 0) = true := (by first | (rw [decide_eq_true_eq]; omega) | (rw [decide_eq_false_iff_not]; omega))
              have HE := Lib.hid (gardenE_bad (n := n) (l := l) (by omega) (by omega) (by omega) ⟨f, by rw [← HFF.out]; exact HIN.out, by unfold Fe.bad; omega⟩)
              clear h HCC
              go_wp2_with fail
              go_ret
              exact ⟨by rw [HE.out]; rfl, HCG.out⟩
            · have d0 : decide (f.a < 0) = false := (by first | (rw [decide_eq_true_eq]; omega) | (rw [decide_eq_false_iff_not]; omega)); have d1 : decide (n ≤ f.a) = true := (by first | (rw [decide_eq_true_eq]; omega) | (rw [decide_eq_false_iff_not]; omega))
              have HE := Lib.hid (gardenE_bad (n := n) (l := l) (by omega) (by omega) (by omega) ⟨f, by rw [← HFF.out]; exact HIN.out, by unfold Fe.bad; omega⟩)
              clear h HCC
              go_wp2_with fail
              go_ret
              exact ⟨by rw [HE.out]; rfl, HCG.out⟩
            · have d0 : decide (f.a < 0) = false := (by first | (rw [decide_eq_true_eq]; omega) | (rw [decide_eq_false_iff_not]; omega)); have d1 : decide (n ≤ f.a) = false := (by first | (rw [decide_eq_true_eq]; omega) | (rw [decide_eq_false_iff_not]; omega)); have d2 : decide (f.b < 0) = true := (by first | (rw [decide_eq_true_eq]; omega) | (rw [decide_eq_false_iff_not]; omega))
              have HE := Lib.hid (gardenE_bad (n := n) (l := l) (by omega) (by omega) (by omega) ⟨f, by rw [← HFF.out]; exact HIN.out, by unfold Fe.bad; omega⟩)
              clear h HCC
              go_wp2_with fail
              go_ret
              exact ⟨by rw [HE.out]; rfl, HCG.out⟩
            · have d0 : decide (f.a < 0) = false := (by first | (rw [decide_eq_true_eq]; omega) | (rw [decide_eq_false_iff_not]; omega)); have d1 : decide (n ≤ f.a) = false := (by first | (rw [decide_eq_true_eq]; omega) | (rw [decide_eq_false_iff_not]; omega)); have d2 : decide (f.b < 0) = false := (by first | (rw [decide_eq_true_eq]; omega) | (rw [decide_eq_false_iff_not]; omega)); have d3 : decide (n ≤ f.b) = true := (by first | (rw [decide_eq_true_eq]; omega) | (rw [decide_eq_false_iff_not]; omega))
              have HE := Lib.hid (gardenE_bad (n := n) (l := l) (by omega) (by omega) (by omega) ⟨f, by rw [← HFF.out]; exact HIN.out, by unfold Fe.bad; omega⟩)
              clear h HCC
              go_wp2_with fail
              go_ret
              exact ⟨by rw [HE.out]; rfl, HCG.out⟩
            · have d0 : decide (f.a < 0) = false := (by first | (rw [decide_eq_true_eq]; omega) | (rw [decide_eq_false_iff_not]; omega)); have d1 : decide (n ≤ f.a) = false := (by first | (rw [decide_eq_true_eq]; omega) | (rw [decide_eq_false_iff_not]; omega)); have d2 : decide (f.b < 0) = false := (by first | (rw [decide_eq_true_eq]; omega) | (rw [decide_eq_false_iff_not]; omega)); have d3 : decide (n ≤ f.b) = false := (by first | (rw [decide_eq_true_eq]; omega) | (rw [decide_eq_false_iff_not]; omega))
              have HH := Lib.hid h
              clear h HCC
              go_wp2_with fail
              go_roundg (l.length - (i + 1))
              case measure => omega
              case rel => exact ⟨i + 1, by omega, rfl, by go_num, (fun j h hj => by
                rcases Nat.lt_succ_iff_lt_or_eq.1 hj with h' | rfl
                · exact HNO.out j h h'
                · rw [HFF.out]; have := HH.out; unfold Fe.bad; omega), HCG.out⟩
          · have HE := Lib.hid (gardenE_good (n := n) (l := l) (by omega) (by omega) (by omega) (fun ⟨x, hx, hb⟩ => by
              obtain ⟨j, hj, rfl⟩ := List.getElem_of_mem hx
              exact absurd hb (HNO.out j hj (by omega))))
            go_wp2_with fail
            go_ret
            exact ⟨by rw [HE.out]; rfl, HCG.out⟩
end Go.Proofs.Ytmmpdfcnenljhaa
