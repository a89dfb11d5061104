/- Rows of a bed of at most five crops in which nothing is sown, walked. Their conditions are their premises. -/
import Derived.Test.YtmmpdfcnenljhaaF30
set_option linter.unusedVariables false
namespace Go.Proofs.Ytmmpdfcnenljhaa
open Go.RowKit

set_option maxRecDepth 100000 in
set_option maxHeartbeats 2000000 in
theorem opened_nil (n : Nat) (w : World) (h1 : 1 ≤ n) (h2 : n ≤ 5) :
    Calls Try.prog 29 #[.int .i64 (n : Int), .slice none 0 0] w fun e w' => ∃ g, e = .returned (.slice (some ⟨g, 0, none⟩) n n) ∧ Blk w' g 3 ((List.replicate n ((2 ^ n - 1 : Nat) : Int)).map (Value.int .i64)) ∧ Chg (fun _ => False) w w' := by
  obtain ⟨hw1, hw2⟩ := all_wraps (m := n) (by omega)
  obtain ⟨x, hx⟩ : ∃ x, ((2 ^ n - 1 : Nat) : Int) = x := ⟨_, rfl⟩
  rw [hx] at hw2 ⊢
  have HC0 := Lib.hid ((Chg.refl (fun _ => False) w).alloc (.cells #[.int .i64 x] 3))
  have HB0 := Lib.hid (Blk.new w #[Value.int .i64 x] 3)
  obtain ⟨xb, hxb⟩ : ∃ xb, w.heap.size = xb := ⟨_, rfl⟩
  rw [hxb] at HB0
  clear hx
  go_enter Try.func29, Try.ntmps29
  go_wp2_with fail
  clear hxb hw1 hw2
  generalize w.alloc (.cells #[.int .i64 x] 3) = W at HC0 HB0 ⊢
  refine (repeat_any x n xb W (HB0.out.cell_some (i := 0) rfl) h1 h2).mono ?_
  rintro e w1 ⟨g, rfl, hb, hc⟩
  have HB := Lib.hid hb; have HC := Lib.hid (HC0.out.trans hc (fun _ x => x.elim))
  clear hb hc HC0 HB0
  go_wp2_with fail
  go_loopg [18] 0 (fun gm iv wr => gm = 0 ∧ iv = .int .i64 0 ∧ wr = w1)
  case atStart => exact ⟨rfl, rfl, rfl⟩
  case round =>
    obtain ⟨rfl, rfl, rfl⟩ := hrel
    go_wp2_with fail
    go_ret
    exact ⟨g, rfl, HB.out, HC.out⟩

/-- The lowest bit of a set, and the set without it; the crops that are left. -/
def lowN (x : Nat) : Nat := (bits .and .i64 (x : Int) (-(x : Int))).toNat
def clrN (x : Nat) : Nat := (bits .and .i64 (x : Int) ((x : Int) - 1)).toNat
def leftN (n used : Nat) : Nat := (bits .andNot .i64 ((2 ^ n - 1 : Nat) : Int) (used : Int)).toNat
theorem low_fact : ∀ x : Nat, x < 32 → bits .and .i64 (x : Int) (-(x : Int)) = ((lowN x : Nat) : Int) ∧ lowN x < 32 := by decide +kernel
theorem clr_fact : ∀ x : Nat, x < 32 → 0 < x → bits .and .i64 (x : Int) ((x : Int) - 1) = ((clrN x : Nat) : Int) ∧ clrN x < x := by decide +kernel
theorem left_fact : ∀ n : Nat, n < 6 → ∀ used : Nat, used < 32 → bits .andNot .i64 ((2 ^ n - 1 : Nat) : Int) (used : Int) = ((leftN n used : Nat) : Int) ∧ leftN n used < 32 := by decide +kernel

/-- A sum over the bits of a set. -/
def overL (F : Nat → Nat) : Nat → Nat → Nat
  | 0, _ => 0
  | k + 1, x => if x = 0 then 0 else F (lowN x) + overL F k (clrN x)
/-- In how many ways m columns can be sown. -/
def waysV (n : Nat) : Nat → Nat → Nat
  | 0, _ => 1
  | m + 1, used => overL (fun lo => waysV n m (used ||| lo)) 32 (leftN n used)
theorem overL_fuel (F : Nat → Nat) : ∀ k x, x ≤ k → x < 32 → ∀ d, overL F (k + d) x = overL F k x
  | 0, x, h, _, d => by
    obtain rfl : x = 0 := by omega
    cases d with
    | zero => rfl
    | succ d => simp [overL]
  | k + 1, x, h, h32, d => by
    rw [show k + 1 + d = (k + d) + 1 by omega, overL, overL]
    by_cases h0 : x = 0
    · rw [if_pos h0, if_pos h0]
    · have := (clr_fact x h32 (by omega)).2
      rw [if_neg h0, if_neg h0, overL_fuel F k (clrN x) (by omega) (by omega) d]
theorem overL_step (F : Nat → Nat) {x : Nat} (h0 : 0 < x) (h : x < 32) : overL F 32 x = F (lowN x) + overL F 32 (clrN x) := by
  have hc := (clr_fact x h h0).2
  have e := overL_fuel F 31 (clrN x) (by omega) (by omega) 1
  show overL F (31 + 1) x = _
  rw [overL, if_neg (by omega), ← e]
theorem overL_zero (F : Nat → Nat) : overL F 32 0 = 0 := by rw [overL, if_pos rfl]

set_option maxRecDepth 100000 in
set_option maxHeartbeats 1000000 in
theorem ways_any (n g : Nat) (h1 : 1 ≤ n) (h2 : n ≤ 5) : ∀ (m : Nat) (c used : Nat) (w : World), c + m = n → used < 32 → Blk w g 3 ((List.replicate n ((2 ^ n - 1 : Nat) : Int)).map (Value.int .i64)) →
    Calls Try.prog 28 #[.int .i64 (n : Int), .slice (some ⟨g, 0, none⟩) n n, .int .i64 (c : Int), .int .i64 (used : Int)] w fun e w' => e = .returned (.int .i64 (wrap64 (waysV n m used : Nat))) ∧ w' = w := by
  intro m
  induction m with
  | zero =>
    intro c used w hcm hu hb
    have hcn : c = n := by omega
    subst hcn
    go_enter Try.func28, Try.ntmps28
    go_wp2_with fail
    go_ret
    exact ⟨ret_int (by simp [waysV, wrap64]), rfl⟩
  | succ m ih =>
    intro c used w hcm hu hb
    have HIH := Lib.hid ih
    have hne : ((c : Int) == (n : Int)) = false := by rw [beq_eq_false_iff_ne]; omega
    have hne2 : (c == n) = false := by rw [beq_eq_false_iff_ne]; omega
    have hcell := hb.cell_some (i := c) (v := .int .i64 ((2 ^ n - 1 : Nat) : Int)) (by rw [List.getElem?_map, List.getElem?_replicate, if_pos (by omega)]; rfl)
    have HB := Lib.hid hb
    obtain ⟨lf1, lf2⟩ := left_fact n (by omega) used hu
    have HWV := Lib.hid (show waysV n (m + 1) used = overL (fun lo => waysV n m (used ||| lo)) 32 (leftN n used) from rfl)
    generalize ((2 ^ n - 1 : Nat) : Int) = full at hcell lf1
    generalize leftN n used = left0 at lf1 lf2 HWV
    have hcn : c < n := by omega
    clear ih hb
    go_enter Try.func28, Try.ntmps28
    go_wp2_with fail
    clear lf1 hcell hne hne2
    go_loopg [10, 9] left0 (fun gm lv ov wr => ∃ (x : Nat) (out : Int), x = gm ∧ lv = .int .i64 x ∧ ov = .int .i64 out ∧ x < 32 ∧ Hid (I64 out) ∧ Hid (∀ r : Nat, r = overL (fun lo => waysV n m (used ||| lo)) 32 x → wrap64 (out + r) = wrap64 (waysV n (m + 1) used : Nat)) ∧ wr = w)
    case atStart => exact ⟨left0, 0, rfl, rfl, rfl, lf2, Lib.hid (by unfold I64; omega), Lib.hid fun r hr => by rw [hr, HWV.out, Int.zero_add], rfl⟩
    case round =>
      obtain ⟨x, out, rfl, rfl, rfl, hx, hoi, hout, rfl⟩ := hrel
      by_cases h0 : x = 0
      · subst h0
        go_wp2_with fail
        go_ret
        refine ⟨ret_int ?_, rfl⟩
        have h := hout.out 0 (overL_zero _).symm
        rw [← h, Int.natCast_zero, Int.add_zero]
        exact (wrap64_id hoi.out).symm
      · obtain ⟨lw1, lw2⟩ := low_fact x hx
        obtain ⟨cl1, cl2⟩ := clr_fact x hx (by omega)
        have HST := Lib.hid (overL_step (fun lo => waysV n m (used ||| lo)) (show 0 < x by omega) hx)
        have hor : used ||| lowN x < 32 := Nat.or_lt_two_pow (n := 5) hu lw2
        have hol := i64_or_nat used (lowN x) (by omega) (by omega)
        have HC := Lib.hid (show Calls Try.prog 28 #[.int .i64 (n : Int), .slice (some ⟨g, 0, none⟩) n n, .int .i64 ((c : Int) + 1), .int .i64 ((used ||| lowN x : Nat) : Int)] wr _ from
          HIH.out (c + 1) (used ||| lowN x) wr (by omega) hor HB.out)
        have hd : decide (0 < x) = true := decide_eq_true (by omega)
        clear h0
        go_wp2_with fail
        refine HC.out.mono ?_
        rintro e w2 ⟨rfl, rfl⟩
        have HOUT := hout
        clear lw1 hol hout HC
        obtain ⟨wv, hwv⟩ : ∃ wv, waysV n m (used ||| lowN x) = wv := ⟨_, rfl⟩
        have HWV2 := Lib.hid hwv
        rw [hwv]
        clear hwv
        obtain ⟨z, hz⟩ : ∃ z, wrap64 (wv : Int) = z := ⟨_, rfl⟩
        have HZ := Lib.hid hz
        rw [hz]
        clear hz
        have cl1' := cl1
        go_wp2_with fail
        go_roundg (clrN x)
        case measure => omega
        case rel =>
          refine ⟨clrN x, wrap64 (out + z), rfl, rfl, rfl, by omega, Lib.hid (wrap64_i64 _), Lib.hid fun r hr => ?_, rfl⟩
          have h := HOUT.out (wv + r) (by rw [HST.out, hr, HWV2.out])
          rw [← h, ← HZ.out, wrap64_add, Int.natCast_add, ← Int.add_assoc, Int.add_assoc out, Int.add_comm (wrap64 _) (r : Int), ← Int.add_assoc, wrap64_add_r]
          congr 1
          omega

theorem Rows_any (n : Nat) (w : World) (h1 : 1 ≤ n) (h2 : n ≤ 5) :
    Calls Try.prog 8 #[.int .i64 (n : Int), .slice none 0 0] w fun e w' => e = .returned (.tuple #[.int .i64 (wrap64 (waysV n n 0 : Nat)), .int .i64 0]) ∧ Chg (fun _ => False) w w' := by
  have hne : ((0 : Int) == (n : Int)) = false := by rw [beq_eq_false_iff_ne]; omega
  have hne2 : (0 == n) = false := by rw [beq_eq_false_iff_ne]; omega
  go_enter Try.func8, Try.ntmps8
  go_wp2_with fail
  refine (start_nil n w h1 h2).mono ?_
  rintro e w1 ⟨rfl, hc1⟩
  have HC1 := Lib.hid hc1
  clear hc1
  go_wp2_with fail
  refine (opened_nil n w1 h1 h2).mono ?_
  rintro e w2 ⟨g, rfl, hb, hc2⟩
  have HC2 := Lib.hid (HC1.out.trans hc2 (fun _ x => x.elim)); have HB := Lib.hid hb
  clear hc2 hb HC1
  go_wp2_with fail
  refine (ways_any n g h1 h2 n 0 0 w2 (by omega) (by omega) HB.out).mono ?_
  rintro e w3 ⟨rfl, rfl⟩
  go_wp2_with fail
  go_ret2
  exact ⟨rfl, HC2.out⟩

theorem ways_fact : ∀ n, n < 6 → wrap64 (waysV n n 0 : Nat) = ([1, 1, 2, 6, 24, 120].getD n 0 : Int) := by decide +kernel

/-- The polynomial at a point, by taking fences away. -/
def tutteR (N : Nat) (x y : Int) : Nat → List Fe → Int
  | 0, _ => 1
  | _ + 1, [] => 1
  | m + 1, f :: r =>
    if f.b = f.a then y * tutteR N x y m r
    else if bridgeB N (f :: r) 0 = true then x * tutteR N x y m (r.map (closeFe f))
    else tutteR N x y m r + tutteR N x y m (r.map (closeFe f))
/-- All fences between a posts, the first of the last ones up to b. -/
def pairsTo (n a b : Nat) : List Fe := ((List.range a).flatMap fun i => ((List.range (n - (i + 1))).map fun j => (⟨(i : Int), ((i + 1 + j : Nat) : Int)⟩ : Fe))) ++ (List.range (b - (a + 1))).map fun j => (⟨(a : Int), ((a + 1 + j : Nat) : Int)⟩ : Fe)
def full (n : Nat) : List Fe := pairsTo n n 0
end Go.Proofs.Ytmmpdfcnenljhaa
