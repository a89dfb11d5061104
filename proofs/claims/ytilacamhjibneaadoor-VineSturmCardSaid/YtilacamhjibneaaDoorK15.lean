/- Texts on the vines, laid together (V91, V93, V108). Their conditions are their premises. -/
import Derived.Test.YtilacamhjibneaaDoorK11
import Derived.Test.YtilacamhjibneaaDoorK12
import Derived.Test.YtilacamhjibneaaDoorK7
set_option linter.unusedVariables false
/- Fibonacci's word has one piece more than letters in it; the lengths of both vines. Plain facts. No condition but their premises. -/
namespace Go.Proofs.YtilacamhjibneaaDoor
open Go.RowKit

theorem fib_part (c : Nat) (h : c < 2) : (part fib c).length = if c = 0 then 2 else 1 := by
  rcases Nat.lt_or_ge c 1 with h1 | h1
  · obtain rfl : c = 0 := by omega
    rfl
  · obtain rfl : c = 1 := by omega
    rfl
theorem ews_lt (m : Nat) : ewF fib 0 m < 2 := by
  have h := fed_bud wf_fib (by decide) bud_fib m
  exact bg_lt wf_fib 0 m _ (at0_mem (by omega))
theorem grow_ge : ∀ (l : List Nat), (∀ c ∈ l, c < 2) → l.length ≤ (grow1 fib l).length
  | [], _ => Nat.le_refl _
  | c :: l, h => by
    have ih := grow_ge l (fun d hd => h d (by simp [hd]))
    have hp := fib_part c (h c (by simp))
    unfold grow1 at ih ⊢
    rw [List.flatMap_cons, List.length_append, List.length_cons]
    split at hp <;> omega
theorem ewL_lt (p m : Nat) : ∀ c ∈ ewL fib 0 p m, c < 2 := fun c hc => by
  unfold ewL at hc
  obtain ⟨t, _, rfl⟩ := List.mem_map.1 hc
  exact ews_lt _
def posS (j : Nat) : Nat := (grow1 fib (ewL fib 0 0 j)).length
theorem posS_succ (j : Nat) : posS (j + 1) = posS j + (part fib (ewF fib 0 j)).length := by
  unfold posS
  have h2 : ewL fib 0 0 (j + 1) = ewL fib 0 0 j ++ [ewF fib 0 j] := by
    rw [ewL_app]
    congr 1
    simp [ewL]
  rw [h2]
  unfold grow1
  rw [List.flatMap_append, List.length_append]
  simp
theorem ew_zero : ewF fib 0 0 = 0 := by decide +kernel
theorem posS_ge : ∀ j, j + 2 ≤ posS (j + 1)
  | 0 => by rw [posS_succ, ew_zero]; decide
  | j + 1 => by
    have ih := posS_ge j
    have hp := fib_part _ (ews_lt (j + 1))
    rw [posS_succ]
    split at hp <;> omega
theorem ex_pos : ∀ p, ∃ j o, p = posS j + o ∧ o < (part fib (ewF fib 0 j)).length
  | 0 => ⟨0, 0, rfl, by rw [ew_zero]; decide⟩
  | p + 1 => by
    obtain ⟨j, o, h1, h2⟩ := ex_pos p
    by_cases h : o + 1 < (part fib (ewF fib 0 j)).length
    · exact ⟨j, o + 1, by omega, h⟩
    · refine ⟨j + 1, 0, by rw [posS_succ]; omega, ?_⟩
      have hp := fib_part _ (ews_lt (j + 1))
      split at hp <;> omega
theorem win_fw : ∀ p, ewL fib 0 p 10 ∈ fw := by
  intro p
  induction p using Nat.strongRecOn with
  | _ p ih =>
    have hbg := bg_ew wf_fib (by decide) bud_fib 40
    rw [bg40_len] at hbg
    by_cases hp2 : p < 2
    · have h := fw_first
      rw [hbg] at h
      rcases Nat.lt_or_ge p 1 with h1 | h1
      · obtain rfl : p = 0 := by omega
        have h3 := h.1
        have := ewL_cut fib 0 0 66 0 10 (by omega)
        rw [List.drop_zero] at this
        rw [this] at h3
        exact h3
      · obtain rfl : p = 1 := by omega
        have h3 := h.2
        rw [ewL_cut fib 0 0 66 1 10 (by omega)] at h3
        exact h3
    · obtain ⟨j, o, h1, h2⟩ := ex_pos p
      have hp := fib_part _ (ews_lt j)
      have hj1 : 1 ≤ j := by
        rcases Nat.eq_zero_or_pos j with h0 | h0
        · subst h0
          rw [ew_zero] at h2
          have : posS 0 = 0 := rfl
          have h5 : (part fib 0).length = 2 := rfl
          omega
        · exact h0
      obtain ⟨k, rfl⟩ : ∃ k, j = k + 1 := ⟨j - 1, by omega⟩
      have hjp := posS_ge k
      have hin := ih (k + 1) (by omega)
      obtain ⟨c1, c2⟩ := fw_closed _ hin
      have hg := grow_ew wf_fib (by decide) bud_fib (k + 1) 10
      have hL := grow_ge (ewL fib 0 (k + 1) 10) (ewL_lt _ _)
      rw [ewL_len] at hL
      obtain ⟨L, hLL⟩ : ∃ L, (grow1 fib (ewL fib 0 (k + 1) 10)).length = L := ⟨_, rfl⟩
      rw [hLL] at hg hL
      have hpos : (grow1 fib (ewL fib 0 0 (k + 1))).length = posS (k + 1) := rfl
      rw [hpos] at hg
      rw [hg] at c1 c2
      have hat : at0 (ewL fib 0 (k + 1) 10) 0 = ewF fib 0 (k + 1) := ewL_at fib 0 (k + 1) (show 0 < 10 by omega)
      by_cases ho : o = 0
      · subst ho
        have := ewL_cut fib 0 (posS (k + 1)) L 0 10 (by omega)
        rw [List.drop_zero] at this
        rw [this] at c1
        rw [h1]
        exact c1
      · have he0 : ewF fib 0 (k + 1) = 0 := by
          by_cases h0 : ewF fib 0 (k + 1) = 0
          · exact h0
          · rw [if_neg h0] at hp; omega
        rw [if_pos he0] at hp
        obtain rfl : o = 1 := by omega
        have c3 := c2 (by rw [hat]; exact he0)
        have hL11 : 11 ≤ L := by
          have h6 : ewL fib 0 (k + 1) 10 = [ewF fib 0 (k + 1)] ++ ewL fib 0 (k + 1 + 1) 9 := by
            rw [show (10 : Nat) = 1 + 9 from rfl, ewL_app]
            congr 1
          have h7 := grow_ge (ewL fib 0 (k + 1 + 1) 9) (ewL_lt _ _)
          rw [ewL_len] at h7
          rw [← hLL, h6, he0]
          unfold grow1 at h7 ⊢
          rw [List.flatMap_append, List.length_append]
          have h8 : (List.flatMap (part fib) [0]).length = 2 := rfl
          omega
        rw [ewL_cut fib 0 (posS (k + 1)) L 1 10 (by omega)] at c3
        rw [h1]
        exact c3
theorem fw_heads : ∀ n, n < 11 → 1 ≤ n → (dis (fw.map (List.take n))).length = n + 1 ∧ ∀ x ∈ fw.map (List.take n), x ∈ win (bg fib 0 40) n 50 := by decide +kernel
/-- One piece more than letters in it. -/
theorem fac_fib {K n : Nat} (hK : 100000 ≤ (bg fib 0 K).length) (h1 : 1 ≤ n) (h10 : n ≤ 10) : facV ((bg fib 0 K).take 100000) n = n + 1 := by
  have hl : (bg fib 0 K).take 100000 = ewL fib 0 0 100000 := by
    rw [bg_ew wf_fib (by decide) bud_fib K]
    have := ewL_cut fib 0 0 (bg fib 0 K).length 0 100000 (by omega)
    rwa [List.drop_zero] at this
  rw [hl]
  unfold facV
  rw [ewL_len]
  obtain ⟨d1, d2⟩ := dis_inv _ (win (ewL fib 0 0 100000) n (100000 + 1 - n)) rfl
  obtain ⟨e1, e2⟩ := dis_inv _ (fw.map (List.take n)) rfl
  obtain ⟨f1, f2⟩ := fw_heads n (by omega) h1
  have hw : ∀ p, p < 100000 + 1 - n → ((ewL fib 0 0 100000).drop p).take n = ewL fib 0 p n := fun p hp => by
    have := ewL_cut fib 0 0 100000 p n (by omega)
    rwa [Nat.zero_add] at this
  have hbg := bg_ew wf_fib (by decide) bud_fib 40
  rw [bg40_len] at hbg
  have hle := nodup_len (dis (win (ewL fib 0 0 100000) n (100000 + 1 - n))) (dis (fw.map (List.take n))) d1 (fun x hx => by
    rw [d2] at hx
    rw [e2]
    unfold win at hx
    obtain ⟨p, hp, rfl⟩ := List.mem_map.1 hx
    rw [hw p (List.mem_range.1 hp)]
    refine List.mem_map.2 ⟨ewL fib 0 p 10, win_fw p, ?_⟩
    have := ewL_cut fib 0 p 10 0 n (by omega)
    rwa [List.drop_zero] at this)
  have hge := nodup_len (dis (fw.map (List.take n))) (dis (win (ewL fib 0 0 100000) n (100000 + 1 - n))) e1 (fun x hx => by
    rw [e2] at hx
    rw [d2]
    have h3 := f2 x hx
    unfold win at h3 ⊢
    obtain ⟨p, hp, rfl⟩ := List.mem_map.1 h3
    have hp50 := List.mem_range.1 hp
    refine List.mem_map.2 ⟨p, List.mem_range.2 (by omega), ?_⟩
    rw [hw p (by omega), hbg]
    have := ewL_cut fib 0 0 66 p n (by omega)
    rw [Nat.zero_add] at this
    exact this.symm)
  rw [f1] at hle hge
  omega

/-- The lengths of Fibonacci's vine. -/
def fbL (y : Nat) : Nat := (gen fib y [0]).length
theorem fbL_next (y : Nat) : fbL (y + 2) = fbL (y + 1) + fbL y := by
  unfold fbL
  rw [gen_one, show part fib 0 = [0] ++ [1] from rfl, gen_app, List.length_append, gen_one fib y 1]
  rfl
theorem fbL_zero : fbL 0 = 1 := rfl
theorem fbL_one : fbL 1 = 2 := rfl
theorem fbL_grow : ∀ y, 1 ≤ fbL y ∧ fbL y < fbL (y + 1) ∧ fbL (y + 1) ≤ 2 ^ (y + 1)
  | 0 => by rw [fbL_zero, fbL_one]; omega
  | y + 1 => by
    obtain ⟨h1, h2, h3⟩ := fbL_grow y
    have h4 : fbL (y + 1 + 1) = fbL (y + 1) + fbL y := fbL_next y
    refine ⟨by omega, by omega, ?_⟩
    rw [h4, Nat.pow_succ]
    omega
theorem fbL_le {y : Nat} (h : y ≤ 60) : fbL y ≤ 1152921504606846976 := by
  cases y with
  | zero => rw [fbL_zero]; omega
  | succ y =>
    refine Nat.le_trans (fbL_grow y).2.2 (Nat.le_trans (Nat.pow_le_pow_right (by omega) h) ?_)
    decide
/-- Of both letters of Thue's and Morse's vine there are equally many. -/
theorem thue_count : ∀ y, (gen thue (y + 1) [0]).count 0 = 2 ^ y ∧ (gen thue (y + 1) [0]).count 1 = 2 ^ y
  | 0 => by decide
  | y + 1 => by
    obtain ⟨h1, h2⟩ := thue_count y
    have ht : ∀ c ∈ ([0] : List Nat), c < thue.length := by decide
    have hl := gen_lt wf_thue (y + 1) [0] ht
    rw [gen_succ, count_grow1 0 _ hl, count_grow1 1 _ hl]
    have e : thue.length = 2 := rfl
    rw [e, Nat.pow_succ]
    simp only [sg]
    have p0 : (part thue 0).count 0 = 1 := rfl
    have p1 : (part thue 1).count 0 = 1 := rfl
    have p2 : (part thue 0).count 1 = 1 := rfl
    have p3 : (part thue 1).count 1 = 1 := rfl
    rw [p0, p1, p2, p3, h1, h2]
    omega
end Go.Proofs.YtilacamhjibneaaDoor

/- The law VineSturm, walked. No condition but the arguments' ranges. -/
namespace Go.Proofs.YtilacamhjibneaaDoor
open Go.RowKit

theorem sturm_nums {A B C : Nat} (g1 : 1 ≤ A) (g2 : A < B) (g3 : C = B + A) (g4 : C ≤ 1152921504606846976) : wrap64 ((A : Int) + (B : Int)) = (C : Int) ∧ ¬ (A : Int) < 1 ∧ ¬ (B : Int) ≤ (A : Int) := by
  refine ⟨?_, by omega, by omega⟩
  rw [wrap_id (x := (A : Int) + (B : Int)) (by omega)]
  omega
theorem sturm_n {n : Nat} (h : n ≤ 10) : wrap64 ((n : Int) + 1) = ((n + 1 : Nat) : Int) := wrap_id (x := (n : Int) + 1) (by omega)
theorem sli_two (w : World) (Y : Nat) (h : Y ≤ 57) : SlI (w.alloc (.cells #[.int .i64 (IntKind.i64.wrap (2 ^ Y)), .int .i64 (IntKind.i64.wrap (2 ^ Y))] 3)) (.slice (some ⟨w.heap.size, 0, none⟩) 2 2) [((2 ^ Y : Nat) : Int), ((2 ^ Y : Nat) : Int)] := by
  refine ⟨_, w.heap.size, 0, 2, rfl, .inr rfl, fun k hk => ?_⟩
  have hb := Blk.new w #[.int .i64 (IntKind.i64.wrap (2 ^ Y)), .int .i64 (IntKind.i64.wrap (2 ^ Y))] 3
  have hp := i64_pow (c := Y) (by omega)
  try rw [← IntWalk.i64_left] at hp
  rw [hp] at hb ⊢
  match k, hk with
  | 0, _ => exact hb.cell_some (i := 0) rfl
  | 1, _ => exact hb.cell_some (i := 1) rfl
theorem same_true (X : List Int) (v u : Value) (w : World) (h1 : SlI w v X) (h2 : SlI w u X) (hl : X.length ≤ 1000000) : Calls Tryd.prog 21 #[v, u] w fun e w' => e = .returned (.bool true) ∧ ∃ q, w' = w.drewN q := by
  have h := same_any X X v u w h1 h2 hl hl
  rwa [show decide (X = X) = true by simp] at h
theorem lon_fib (b : Nat) (w : World) (hv : VAt w b 0 fib) (y : Nat) (hy : y ≤ 60) : Calls Tryd.prog 32 #[.slice (some ⟨b, 0, none⟩) 2 2, .string ⟨#[97]⟩, .int .i64 (y : Int)] w fun e w' => e = .returned (.tuple #[.int .i64 (fbL y : Nat), .int .i64 0]) ∧ Chg (fun _ => False) w w' := by
  have h := lon_ok fib wf_fib [0] (by decide) (by decide) (y : Int) (by unfold I64; omega) b 0 2 w hv
  have hl := fbL_le hy
  have e : lonV fib [0] (y : Int) = .tuple #[.int .i64 (fbL y : Nat), .int .i64 0] := by
    unfold lonV
    rw [if_neg (by omega)]
    have : (gen fib (y : Int).toNat [0]).length = fbL y := rfl
    rw [this, if_neg (by omega)]
  rw [e, str_A] at h
  exact h
theorem fac_fib_any (b : Nat) (w : World) (hv : VAt w b 0 fib) (n : Nat) (h1 : 1 ≤ n) (h10 : n ≤ 10) : Calls Tryd.prog 17 #[.slice (some ⟨b, 0, none⟩) 2 2, .string ⟨#[97]⟩, .int .i64 (n : Int)] w fun e w' => e = .returned (.tuple #[.int .i64 ((n + 1 : Nat) : Int), .int .i64 0]) ∧ Chg (fun _ => False) w w' := by
  have h := factors_ok fib wf_fib 0 (by decide) bud_fib (fed_any wf_fib (by decide) bud_fib _) n h1 h10 b 0 2 w hv
  rw [str_A] at h
  exact h.mono fun e w' ⟨⟨K, h2, h3⟩, h4⟩ => ⟨by rw [h2, fac_fib h3 h1 h10], h4⟩
theorem thue_tally {y : Nat} (hy : y ≤ 57) : agedF thue [0] (y + 1) = [2 ^ y, 2 ^ y] := by
  have hl : 2 ^ y ≤ 144115188075855872 := Nat.le_trans (Nat.pow_le_pow_right (by omega) hy) (by decide)
  have ht : ∀ c ∈ ([0] : List Nat), c < thue.length := by decide
  refine nat_ext2 (by rw [agedF_len]; rfl) (fun j hj => ?_)
  rw [agedF_len] at hj
  have hj2 : j < 2 := hj
  rw [agedF_at wf_thue ht (by decide) (y + 1) j hj]
  obtain ⟨c0, c1⟩ := thue_count y
  unfold lim
  rcases Nat.lt_or_ge j 1 with h1 | h1
  · obtain rfl : j = 0 := by omega
    rw [c0]
    show min (2 ^ y) _ = 2 ^ y
    omega
  · obtain rfl : j = 1 := by omega
    rw [c1]
    show min (2 ^ y) _ = 2 ^ y
    omega
theorem par_thue (b : Nat) (w : World) (hv : VAt w b 0 thue) (y : Nat) (hy : y ≤ 57) : Calls Tryd.prog 34 #[.slice (some ⟨b, 0, none⟩) 2 2, .string ⟨#[97]⟩, .int .i64 ((y + 1 : Nat) : Int)] w fun r w' => (∃ g c, r = .returned (.tuple #[.slice (some ⟨g, 0, none⟩) 2 c, .int .i64 0]) ∧ SlI w' (.slice (some ⟨g, 0, none⟩) 2 c) [((2 ^ y : Nat) : Int), ((2 ^ y : Nat) : Int)]) ∧ Chg (fun _ => False) w w' := by
  have h := parts_ok thue wf_thue [0] (by decide) (by decide) (y + 1) (by omega) b 0 2 w hv
  rw [thue_tally hy, str_A] at h
  have hl : 2 ^ y ≤ 144115188075855872 := Nat.le_trans (Nat.pow_le_pow_right (by omega) hy) (by decide)
  refine h.mono ?_
  rintro r w' ⟨h1, h2⟩
  have hb : bigF [2 ^ y, 2 ^ y] [2 ^ y, 2 ^ y].length = false := by
    show ((false || decide (1152921504606846976 < at0 [2 ^ y, 2 ^ y] 0)) || decide (1152921504606846976 < at0 [2 ^ y, 2 ^ y] 1)) = false
    have e0 : at0 [2 ^ y, 2 ^ y] 0 = 2 ^ y := rfl
    have e1 : at0 [2 ^ y, 2 ^ y] 1 = 2 ^ y := rfl
    rw [e0, e1, decide_eq_false (by omega)]
    rfl
  rw [hb, if_neg (by simp)] at h1
  obtain ⟨g, c, rfl, hn⟩ := h1
  refine ⟨⟨g, c, rfl, _, g, 0, c, rfl, .inr rfl, fun k hk => ?_⟩, h2⟩
  have h3 := hn k hk
  rw [h3]
  match k, hk with
  | 0, _ => rfl
  | 1, _ => rfl

set_option maxRecDepth 100000 in
set_option maxHeartbeats 8000000 in
theorem vineSturm_law (a l : Nat) (ha : a < 256) (hl : l < 256) (w : World) :
    Calls Tryd.prog 8 #[.int .u8 (a : Int), .int .u8 (l : Int)] w fun e w' => e = .returned (.bool true) ∧ Chg (fun _ => False) w w' := by
  obtain ⟨Y, hY⟩ : ∃ Y, a % 58 = Y := ⟨_, rfl⟩
  obtain ⟨n, hn⟩ : ∃ n, l % 10 + 1 = n := ⟨_, rfl⟩
  have hY57 : Y ≤ 57 := by omega
  have hn1 : 1 ≤ n := by omega
  have hn10 : n ≤ 10 := by omega
  have hYI : (a : Int) % 58 = (Y : Int) := by omega
  have hnI : 1 + (l : Int) % 10 = (n : Int) := by omega
  clear hY hn
  have HC1 := Lib.hid ((Chg.refl (fun _ => False) w).alloc (.cells #[.string ⟨#[97, 98]⟩, .string ⟨#[97]⟩] 9))
  have HV := Lib.hid (show VAt (w.alloc (.cells #[.string ⟨#[97, 98]⟩, .string ⟨#[97]⟩] 9)) w.heap.size 0 fib by
    have h := vat_two w [0, 1] [0]
    rw [str_A, str_AB] at h
    exact h)
  obtain ⟨b0, hb0⟩ : ∃ b0, w.heap.size = b0 := ⟨_, rfl⟩
  rw [hb0] at HV
  have g1 := (fbL_grow Y).1
  have g2 := (fbL_grow Y).2.1
  have g3 := fbL_next Y
  have g4 := fbL_le (show Y + 2 ≤ 60 by omega)
  have HL0 := Lib.hid (fun w hv => lon_fib b0 w hv Y (by omega))
  have HL1 := Lib.hid (fun w hv => lon_fib b0 w hv (Y + 1) (by omega))
  have HL2 := Lib.hid (fun w hv => lon_fib b0 w hv (Y + 2) (by omega))
  have HFA := Lib.hid (fun w hv => fac_fib_any b0 w hv n hn1 hn10)
  have HPT := Lib.hid (fun b w hv => par_thue b w hv Y hY57)
  obtain ⟨A, hA⟩ : ∃ A, fbL Y = A := ⟨_, rfl⟩
  obtain ⟨B, hB⟩ : ∃ B, fbL (Y + 1) = B := ⟨_, rfl⟩
  obtain ⟨C, hC⟩ : ∃ C, fbL (Y + 2) = C := ⟨_, rfl⟩
  rw [hA] at g1 g2 g3
  rw [hB] at g2 g3
  rw [hC] at g3 g4
  simp only [hA] at HL0
  simp only [hB, Int.natCast_add, Int.cast_ofNat_Int] at HL1
  simp only [hC, Int.natCast_add, Int.cast_ofNat_Int] at HL2
  have HSN := Lib.hid (sturm_nums g1 g2 g3 g4)
  have HSN4 := Lib.hid (sturm_n hn10)
  clear hA hB hC g1 g2 g3 g4
  go_enter Tryd.func8, Tryd.ntmps8
  go_wp2_with fail
  refine (HL0.out _ HV.out).mono ?_
  rintro r w1 ⟨rfl, hc1⟩
  have HV1 := Lib.hid (HV.out.chg hc1 (fun x => x)); have HC2 := Lib.hid (HC1.out.trans hc1 (fun _ x => x.elim))
  clear hc1
  go_wp2_with fail
  refine (HL1.out _ HV1.out).mono ?_
  rintro r w2 ⟨rfl, hc1⟩
  have HV2 := Lib.hid (HV1.out.chg hc1 (fun x => x)); have HC3 := Lib.hid (HC2.out.trans hc1 (fun _ x => x.elim))
  clear hc1
  go_wp2_with fail
  refine (HL2.out _ HV2.out).mono ?_
  rintro r w3 ⟨rfl, hc1⟩
  have HV3 := Lib.hid (HV2.out.chg hc1 (fun x => x)); have HC4 := Lib.hid (HC3.out.trans hc1 (fun _ x => x.elim))
  clear hc1
  go_wp2_with fail
  refine (HFA.out _ HV3.out).mono ?_
  rintro r w4 ⟨rfl, hc1⟩
  have HC5 := Lib.hid (HC4.out.trans hc1 (fun _ x => x.elim))
  clear hc1
  obtain ⟨i1, i2, i3⟩ := HSN.out
  have i4 := HSN4.out
  have HV5 := Lib.hid (show VAt (w4.alloc (.cells #[.string ⟨#[97, 98]⟩, .string ⟨#[98, 97]⟩] 9)) w4.heap.size 0 thue by
    have h := vat_two w4 [0, 1] [1, 0]
    rw [str_BA, str_AB] at h
    exact h)
  have HC6 := Lib.hid (HC5.out.alloc (.cells #[.string ⟨#[97, 98]⟩, .string ⟨#[98, 97]⟩] 9))
  go_wp2_with fail
  refine (HPT.out _ _ HV5.out).mono ?_
  rintro r w5 ⟨⟨g, c, rfl, hsl⟩, hc1⟩
  have HC7 := Lib.hid (HC6.out.trans hc1 (fun _ x => x.elim))
  have HC8 := Lib.hid (HC7.out.alloc (.cells #[.int .i64 (IntKind.i64.wrap (2 ^ Y)), .int .i64 (IntKind.i64.wrap (2 ^ Y))] 3))
  have HSL := Lib.hid (sli_chg hsl ((Chg.refl (fun _ => False) w5).alloc (.cells #[.int .i64 (IntKind.i64.wrap (2 ^ Y)), .int .i64 (IntKind.i64.wrap (2 ^ Y))] 3)))
  have HSI := Lib.hid (sli_two w5 Y hY57)
  have HSM := Lib.hid (fun (wz : World) (hz : Chg (fun _ => False) (w5.alloc (.cells #[.int .i64 (IntKind.i64.wrap (2 ^ Y)), .int .i64 (IntKind.i64.wrap (2 ^ Y))] 3)) wz) => same_true [((2 ^ Y : Nat) : Int), ((2 ^ Y : Nat) : Int)] _ _ wz (sli_chg HSL.out hz) (sli_chg HSI.out hz) (by simp))
  clear hc1 hsl HSL HSI i1 i2 i3 i4
  go_wp2_with fail
  go_region_with (first
    | (go_at_call 21; with_reducible refine (HSM.out _ ((Chg.refl _ _).drew)).mono ?_; rintro r w6 ⟨rfl, q, rfl⟩)
    | (go_at_call 16; with_reducible refine (alive_any _).mono ?_; rintro e w7 ⟨rfl, hc7⟩))
  all_goals
    have HC10 := Lib.hid ((HC8.out.drewN (1 + q)).trans hc7 (fun _ (x : False) => x.elim))
    clear hc7
    go_wp2_with fail
    go_ret
    exact ⟨rfl, HC10.out⟩
end Go.Proofs.YtilacamhjibneaaDoor

/- The law VineSturm, at any input. No condition but the arguments' ranges. -/
namespace Go.Proofs.YtilacamhjibneaaDoor
open Go.RowKit

theorem u8s_of {n : Int} (h : (Lit.int .u8 n).wf = true) : ∃ k : Nat, n = (k : Int) ∧ k < 256 := by
  have : 0 ≤ n ∧ n ≤ 255 := by simpa [Lit.wf, IntKind.min, IntKind.max, IntKind.signed, IntKind.bits] using h
  exact ⟨n.toNat, by omega, by omega⟩

theorem vineSturm_any (a l : Int) (ha : (Lit.int .u8 a).wf = true) (hl : (Lit.int .u8 l).wf = true) (w : World) :
    Calls Tryd.prog 8 #[.int .u8 a, .int .u8 l] w fun e w' => e = .returned (.bool true) ∧ Chg (fun _ => False) w w' := by
  obtain ⟨a, rfl, ha'⟩ := u8s_of ha
  obtain ⟨l, rfl, hl'⟩ := u8s_of hl
  exact vineSturm_law a l ha' hl' w
end Go.Proofs.YtilacamhjibneaaDoor
