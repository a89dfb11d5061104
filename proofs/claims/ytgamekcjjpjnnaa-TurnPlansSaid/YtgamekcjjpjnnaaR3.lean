/- The reference's first plan behind some hours, walked. Its conditions are its premises. -/
import Derived.Test.YtgamekcjjpjnnaaR2
set_option linter.unusedVariables false
namespace Go.Proofs.Ytgamekcjjpjnnaa
open Go.RowKit

/-- A list in memory, or nothing. -/
def OptPost (r : Option (List Int)) (w : World) (e : Ending) (w' : World) : Prop :=
  Chg (fun _ => False) w w' ∧ match r with
    | none => e = .returned (.slice none 0 0)
    | some X => ∃ g c, e = .returned (.slice (some ⟨g, 0, none⟩) X.length c) ∧ IntsAt w' g 0 X

theorem DiffAt.same {w w' : World} {g N : Nat} {rs : Nat → Nat} {M : List Nat} (h : DiffAt w g rs N M) (hc : Chg (fun _ => False) w w') : DiffAt w' g rs N M := h.chg hc (fun x => x) (fun _ _ x => x)

set_option maxRecDepth 100000 in
set_option maxHeartbeats 1000000 in
theorem first_leaf (T N : Nat) (l : List Sp) (M : List Nat) (g co : Nat) (X : List Int) (br cx : Nat) (w : World) (hn : X.length = N) (hX : IntsAt w br 0 X) (hok : okPlan T l X = true) :
    Calls Try.prog 53 #[.int .i64 T, .int .i64 N, .slice (some ⟨g, 0, none⟩) N co, .slice (some ⟨br, 0, none⟩) X.length cx] w (OptPost (plansFrom T l 0 X).head? w) := by
  have e : (plansFrom T l 0 X).head? = some X := by unfold plansFrom; rw [if_pos hok]; rfl
  rw [e]
  have HX := Lib.hid hX
  clear hX e hok
  have dl : ((X.length : Int) == (N : Int)) = true := by simp [hn]
  go_enter Try.func53, Try.ntmps53
  go_wp2_with fail
  go_ret
  exact ⟨Chg.refl _ _, br, cx, rfl, HX.out⟩

set_option maxRecDepth 100000 in
set_option maxHeartbeats 4000000 in
theorem first_step (T N : Nat) (l : List Sp) (hv : Valid T N l) (M : List Nat) (hA : ApartOk T N l M) (g co : Nat) (rs : Nat → Nat) (m : Nat) (X : List Int) (br cx : Nat) (w : World)
    (hD : DiffAt w g rs N M) (hm : X.length + (m + 1) = N) (h1 : 1 ≤ X.length) (hcr : X.length ≤ cx) (hX : IntsAt w br 0 X) (hG : GoodX T M X)
    (ih : ∀ (k g' c : Nat) (w' : World), GoodX T M (X ++ [(k : Int)]) → k < T → DiffAt w' g rs N M → IntsAt w' g' 0 (X ++ [(k : Int)]) → (X ++ [(k : Int)]).length ≤ c →
      Calls Try.prog 53 #[.int .i64 T, .int .i64 N, .slice (some ⟨g, 0, none⟩) N co, .slice (some ⟨g', 0, none⟩) (X ++ [(k : Int)]).length c] w' (OptPost (plansFrom T l m (X ++ [(k : Int)])).head? w')) :
    Calls Try.prog 53 #[.int .i64 T, .int .i64 N, .slice (some ⟨g, 0, none⟩) N co, .slice (some ⟨br, 0, none⟩) X.length cx] w (OptPost (plansFrom T l (m + 1) X).head? w) := by
  obtain ⟨i0, hi0, hz0, hz1, hz2⟩ := info_parts info3
  have hneq : ∀ (w : World) (a : Option Addr) (n c n' c' : Nat), (binOp .neq 25 (.slice a n c) (.slice none n' c')).run Try.prog w = .ok (.bool (!a.isNone)) w := fun w a n c n' c' => run_neq_slice_nil_any w 25 3 a n c n' c' Try.underlying25
  have ht1 := hv.t1; have ht2 := hv.t2; have hn2 := hv.n2
  have HGW : Hid (∀ k : Nat, ∀ r, (plansFrom T l m (X ++ [(k : Int)])).head? = r → r = none → plansFrom T l m (X ++ [(k : Int)]) = []) := Lib.hid (fun k r h1 h2 => by subst h2; simpa using h1)
  obtain ⟨r0, hr0⟩ : ∃ r0, (plansFrom T l (m + 1) X).head? = r0 := ⟨_, rfl⟩
  rw [hr0]
  have dlen : ((X.length : Int) == (N : Int)) = false := by rw [beq_eq_false_iff_ne]; first | omega | (simp at hm ⊢; omega)
  have HV := Lib.hid hv; have HA := Lib.hid hA; have HD := Lib.hid hD; have HG := Lib.hid hG; have HI := Lib.hid ih; have HR0 := Lib.hid hr0; have HM := Lib.hid hm
  have HI0 := Lib.hid hi0; have HZ0 := Lib.hid hz0; have HZ1 := Lib.hid hz1; have HZ2 := Lib.hid hz2
  have HX := Lib.hid hX; clear hX
  have hm6 := hm
  clear hv hA hD hG ih hr0 hm hi0 hz0 hz1 hz2
  go_enter Try.func53, Try.ntmps53
  go_wp2_with fail
  go_loopg [9] T (fun gm iv wr => ∃ k : Nat, k ≤ T ∧ gm = T - k ∧ iv = .int .i64 (k : Nat) ∧ (∀ k', k' < k → plansFrom T l m (X ++ [(k' : Int)]) = []) ∧ Chg (fun _ => False) w wr)
  case atStart => exact ⟨0, by omega, by omega, rfl, fun k' h => by omega, Chg.refl _ w⟩
  case round =>
    obtain ⟨k, hk, rfl, rfl, hno, hcg⟩ := hrel
    have HNO := Lib.hid hno; have HCG := Lib.hid hcg
    clear hno hcg
    by_cases hkT : k < T
    · have dk : decide ((k : Int) < (T : Int)) = true := by rw [decide_eq_true_eq]; omega
      go_wp2_with fail
      refine (fits_any T N M g co rs X (some ⟨br, 0, none⟩) cx br k wr (by omega) (by omega) (by omega) (HD.out.same HCG.out) (HX.out.chg HCG.out (fun x => x)) (.inr rfl) HG.out.rng (by first | omega | (simp at hm6 ⊢; omega)) hkT).mono ?_
      rintro e w1 ⟨bf, rfl, hbf, x, rfl⟩
      have HBF := Lib.hid hbf
      have HC1 := Lib.hid (HCG.out.grow x)
      clear hbf
      generalize wr.grow x = W at HC1 ⊢
      cases bf with
      | false =>
        have HNF := Lib.hid (nofit (l := l) (m := m) HA.out HG.out.rng (by omega) HM.out hkT (fun h => by have := HBF.out.2 h; cases this))
        go_wp2_with fail
        go_roundg (T - (k + 1))
        case measure => omega
        case rel => exact ⟨k + 1, by omega, rfl, by go_num, fun k' h => by
          rcases Nat.lt_succ_iff_lt_or_eq.1 h with h' | rfl
          · exact HNO.out k' h'
          · exact HNF.out, HC1.out⟩
      | true =>
        have HGN := Lib.hid (HG.out.fit HA.out (by omega) hkT (by first | omega | (simp at hm6 ⊢; omega)) (HBF.out.1 rfl))
        have HNEW : Hid (∀ j u, [Value.int .i64 (k : Int)][j]? = some u → (W.alloc (Obj.cells #[.int .i64 (k : Int)] 3)).cell? ((⟨W.heap.size, 0, none⟩ : Addr).add j) = some u) := Lib.hid (fun j u hu => by
          rw [add_plain, Nat.zero_add]
          exact (Blk.new W #[.int .i64 (k : Int)] 3).cell_some hu)
        have HOLD : Hid (∀ j u, (X.map (Value.int .i64))[j]? = some u → (W.alloc (Obj.cells #[.int .i64 (k : Int)] 3)).cell? ((⟨br, 0, none⟩ : Addr).add j) = some u) := Lib.hid (fun j u hu => by
          rw [add_plain]
          simp at hu
          obtain ⟨x, hx, rfl⟩ := hu
          obtain ⟨hj, rfl⟩ := List.getElem?_eq_some_iff.1 hx
          exact ((HX.out.chg (HC1.out.alloc _) (fun x => x)) j hj))
        obtain ⟨r1, hr1⟩ : ∃ r1, (plansFrom T l m (X ++ [(k : Int)])).head? = r1 := ⟨_, rfl⟩
        have hik := HI.out k
        rw [hr1] at hik
        have HIK := Lib.hid hik; have HR1 := Lib.hid hr1
        clear hik hr1
        go_wp2_with (at_builtin; refine wpList_append_grows _ rfl (.tmp 34) (.tmp 36) 25 rfl 3 i0 (.int .i64 0) 1 8 Try.underlying25 HI0.out HZ0.out HZ1.out HZ2.out rfl (by decide) (some ⟨br, 0, none⟩) X.length X.length (X.map (Value.int .i64)) rfl (by intro h; cases h) (by simp) (fun b hb j u hu => by cases hb; exact HOLD.out j u hu) ⟨W.heap.size, 0, none⟩ 1 1 [.int .i64 (k : Int)] rfl rfl HNEW.out (by intro u hu; simp at hu; subst hu; rfl) (by omega) (by simp [maxLen]; try omega) (by omega) ?_; intro v1 w1 hown1 hgrow1; have HOWN1 := Lib.hid hown1; have HGROW1 := Lib.hid hgrow1; clear hown1 hgrow1)
        have hown1 := HOWN1.out
        have hc3 : Chg (fun _ => False) w w1 := (HC1.out.alloc _).trans (Chg.of_grown HGROW1.out) (fun _ x => x.elim)
        obtain ⟨g1, c1, rfl, hg1, hg2, hI3, hgc⟩ := owns_ints (X := (X ++ [(k : Int)])) (by rw [List.map_append]; exact hown1) (by simp)
        have HC3 := Lib.hid hc3; have HI3 := Lib.hid hI3
        clear hc3 hI3 hown1 HOWN1 HGROW1 HNEW
        go_at_call 53
        refine (HIK.out g1 c1 w1 HGN.out hkT (HD.out.same HC3.out) HI3.out hgc).mono ?_
        rintro e w' ⟨hc4, he⟩
        have HC4 := Lib.hid (HC3.out.trans hc4 (fun _ x => x.elim))
        clear hc4
        cases r1 with
        | none =>
          have he' : e = .returned (.slice none 0 0) := he
          subst he'
          try clear he
          go_wp2_with fail
          go_roundg (T - (k + 1))
          case measure => omega
          case rel => exact ⟨k + 1, by omega, rfl, by go_num, fun k' h => by
            rcases Nat.lt_succ_iff_lt_or_eq.1 h with h' | rfl
            · exact HNO.out k' h'
            · exact HGW.out k' none HR1.out rfl, HC4.out⟩
        | some Y =>
          obtain ⟨g2, c2, he', hI4⟩ : ∃ g c, e = .returned (.slice (some ⟨g, 0, none⟩) Y.length c) ∧ IntsAt w' g 0 Y := he
          subst he'
          have HI4 := Lib.hid hI4
          clear hI4
          try clear he
          go_wp2_with fail
          go_ret
          have hr0 : r0 = some Y := by
            rw [← HR0.out]
            exact plansFrom_head HNO.out hkT HR1.out
          subst hr0
          exact ⟨HC4.out, g2, c2, rfl, HI4.out⟩
    · have dk : decide ((k : Int) < (T : Int)) = false := by rw [decide_eq_false_iff_not]; omega
      have hr0 : r0 = none := by
        rw [← HR0.out, plansFrom_none (fun h' hh => HNO.out h' (by omega))]
        rfl
      subst hr0
      go_wp2_with fail
      go_ret
      exact ⟨HCG.out, rfl⟩

set_option maxRecDepth 100000 in
set_option maxHeartbeats 4000000 in
theorem first_top (T N : Nat) (l : List Sp) (hv : Valid T N l) (M : List Nat) (hA : ApartOk T N l M) (g co : Nat) (rs : Nat → Nat) (m : Nat) (w : World)
    (hD : DiffAt w g rs N M) (hm : ([] : List Int).length + (m + 1) = N) (hG : GoodX T M ([] : List Int))
    (ih : ∀ (k g' c : Nat) (w' : World), GoodX T M ([(k : Int)]) → k < T → DiffAt w' g rs N M → IntsAt w' g' 0 ([(k : Int)]) → ([(k : Int)]).length ≤ c →
      Calls Try.prog 53 #[.int .i64 T, .int .i64 N, .slice (some ⟨g, 0, none⟩) N co, .slice (some ⟨g', 0, none⟩) ([(k : Int)]).length c] w' (OptPost (plansFrom T l m ([(k : Int)])).head? w')) :
    Calls Try.prog 53 #[.int .i64 T, .int .i64 N, .slice (some ⟨g, 0, none⟩) N co, .slice none 0 0] w (OptPost (plansFrom T l (m + 1) ([] : List Int)).head? w) := by
  obtain ⟨i0, hi0, hz0, hz1, hz2⟩ := info_parts info3
  have hneq : ∀ (w : World) (a : Option Addr) (n c n' c' : Nat), (binOp .neq 25 (.slice a n c) (.slice none n' c')).run Try.prog w = .ok (.bool (!a.isNone)) w := fun w a n c n' c' => run_neq_slice_nil_any w 25 3 a n c n' c' Try.underlying25
  have ht1 := hv.t1; have ht2 := hv.t2; have hn2 := hv.n2
  have HGW : Hid (∀ k : Nat, ∀ r, (plansFrom T l m ([(k : Int)])).head? = r → r = none → plansFrom T l m ([(k : Int)]) = []) := Lib.hid (fun k r h1 h2 => by subst h2; simpa using h1)
  obtain ⟨r0, hr0⟩ : ∃ r0, (plansFrom T l (m + 1) ([] : List Int)).head? = r0 := ⟨_, rfl⟩
  rw [hr0]
  have dlen : ((0 : Int) == (N : Int)) = false := by rw [beq_eq_false_iff_ne]; first | omega | (simp at hm ⊢; omega)
  have HV := Lib.hid hv; have HA := Lib.hid hA; have HD := Lib.hid hD; have HG := Lib.hid hG; have HI := Lib.hid ih; have HR0 := Lib.hid hr0; have HM := Lib.hid hm
  have HI0 := Lib.hid hi0; have HZ0 := Lib.hid hz0; have HZ1 := Lib.hid hz1; have HZ2 := Lib.hid hz2
  skip
  have hm6 := hm
  clear hv hA hD hG ih hr0 hm hi0 hz0 hz1 hz2
  go_enter Try.func53, Try.ntmps53
  go_wp2_with fail
  go_loopg [9] T (fun gm iv wr => ∃ k : Nat, k ≤ T ∧ gm = T - k ∧ iv = .int .i64 (k : Nat) ∧ (∀ k', k' < k → plansFrom T l m (([] : List Int) ++ [(k' : Int)]) = []) ∧ Chg (fun _ => False) w wr)
  case atStart => exact ⟨0, by omega, by omega, rfl, fun k' h => by omega, Chg.refl _ w⟩
  case round =>
    obtain ⟨k, hk, rfl, rfl, hno, hcg⟩ := hrel
    have HNO := Lib.hid hno; have HCG := Lib.hid hcg
    clear hno hcg
    by_cases hkT : k < T
    · have dk : decide ((k : Int) < (T : Int)) = true := by rw [decide_eq_true_eq]; omega
      go_wp2_with fail
      refine (fits_any T N M g co rs ([] : List Int) none 0 0 k wr (by omega) (by omega) (by omega) (HD.out.same HCG.out) (fun k hk => by simp at hk) (.inl rfl) HG.out.rng (by first | omega | (simp at hm6 ⊢; omega)) hkT).mono ?_
      rintro e w1 ⟨bf, rfl, hbf, x, rfl⟩
      have HBF := Lib.hid hbf
      have HC1 := Lib.hid (HCG.out.grow x)
      clear hbf
      generalize wr.grow x = W at HC1 ⊢
      cases bf with
      | false =>
        have HNF := Lib.hid (nofit (l := l) (m := m) HA.out HG.out.rng (by omega) HM.out hkT (fun h => by have := HBF.out.2 h; cases this))
        go_wp2_with fail
        go_roundg (T - (k + 1))
        case measure => omega
        case rel => exact ⟨k + 1, by omega, rfl, by go_num, fun k' h => by
          rcases Nat.lt_succ_iff_lt_or_eq.1 h with h' | rfl
          · exact HNO.out k' h'
          · exact HNF.out, HC1.out⟩
      | true =>
        have HGN := Lib.hid (HG.out.fit HA.out (by omega) hkT (by first | omega | (simp at hm6 ⊢; omega)) (HBF.out.1 rfl))
        have HNEW : Hid (∀ j u, [Value.int .i64 (k : Int)][j]? = some u → (W.alloc (Obj.cells #[.int .i64 (k : Int)] 3)).cell? ((⟨W.heap.size, 0, none⟩ : Addr).add j) = some u) := Lib.hid (fun j u hu => by
          rw [add_plain, Nat.zero_add]
          exact (Blk.new W #[.int .i64 (k : Int)] 3).cell_some hu)
        skip
        obtain ⟨r1, hr1⟩ : ∃ r1, (plansFrom T l m ([(k : Int)])).head? = r1 := ⟨_, rfl⟩
        have hik := HI.out k
        rw [hr1] at hik
        have HIK := Lib.hid hik; have HR1 := Lib.hid hr1
        clear hik hr1
        go_wp2_with (at_builtin; refine wpList_append_grows _ rfl (.tmp 34) (.tmp 36) 25 rfl 3 i0 (.int .i64 0) 1 8 Try.underlying25 HI0.out HZ0.out HZ1.out HZ2.out rfl (by decide) none 0 0 [] rfl (fun _ => ⟨rfl, rfl⟩) rfl (fun b hb j u hu => by cases hb) ⟨W.heap.size, 0, none⟩ 1 1 [.int .i64 (k : Int)] rfl rfl HNEW.out (by intro u hu; simp at hu; subst hu; rfl) (by omega) (by simp [maxLen]; try omega) (by omega) ?_; intro v1 w1 hown1 hgrow1; have HOWN1 := Lib.hid hown1; have HGROW1 := Lib.hid hgrow1; clear hown1 hgrow1)
        have hown1 := HOWN1.out
        have hc3 : Chg (fun _ => False) w w1 := (HC1.out.alloc _).trans (Chg.of_grown HGROW1.out) (fun _ x => x.elim)
        obtain ⟨g1, c1, rfl, hg1, hg2, hI3, hgc⟩ := owns_ints (X := ([(k : Int)])) hown1 (by simp)
        have HC3 := Lib.hid hc3; have HI3 := Lib.hid hI3
        clear hc3 hI3 hown1 HOWN1 HGROW1 HNEW
        go_at_call 53
        refine (HIK.out g1 c1 w1 HGN.out hkT (HD.out.same HC3.out) HI3.out hgc).mono ?_
        rintro e w' ⟨hc4, he⟩
        have HC4 := Lib.hid (HC3.out.trans hc4 (fun _ x => x.elim))
        clear hc4
        cases r1 with
        | none =>
          have he' : e = .returned (.slice none 0 0) := he
          subst he'
          try clear he
          go_wp2_with fail
          go_roundg (T - (k + 1))
          case measure => omega
          case rel => exact ⟨k + 1, by omega, rfl, by go_num, fun k' h => by
            rcases Nat.lt_succ_iff_lt_or_eq.1 h with h' | rfl
            · exact HNO.out k' h'
            · exact HGW.out k' none HR1.out rfl, HC4.out⟩
        | some Y =>
          obtain ⟨g2, c2, he', hI4⟩ : ∃ g c, e = .returned (.slice (some ⟨g, 0, none⟩) Y.length c) ∧ IntsAt w' g 0 Y := he
          subst he'
          have HI4 := Lib.hid hI4
          clear hI4
          try clear he
          go_wp2_with fail
          go_ret
          have hr0 : r0 = some Y := by
            rw [← HR0.out]
            exact plansFrom_head HNO.out hkT HR1.out
          subst hr0
          exact ⟨HC4.out, g2, c2, rfl, HI4.out⟩
    · have dk : decide ((k : Int) < (T : Int)) = false := by rw [decide_eq_false_iff_not]; omega
      have hr0 : r0 = none := by
        rw [← HR0.out, plansFrom_none (fun h' hh => HNO.out h' (by omega))]
        rfl
      subst hr0
      go_wp2_with fail
      go_ret
      exact ⟨HCG.out, rfl⟩

theorem first_any (T N : Nat) (l : List Sp) (hv : Valid T N l) (M : List Nat) (hA : ApartOk T N l M) (g co : Nat) (rs : Nat → Nat) : ∀ (m : Nat) (X : List Int) (br cx : Nat) (w : World),
    DiffAt w g rs N M → X.length + m = N → 1 ≤ X.length → IntsAt w br 0 X → GoodX T M X → X.length ≤ cx →
    Calls Try.prog 53 #[.int .i64 T, .int .i64 N, .slice (some ⟨g, 0, none⟩) N co, .slice (some ⟨br, 0, none⟩) X.length cx] w (OptPost (plansFrom T l m X).head? w) := by
  intro m
  induction m with
  | zero =>
    intro X br cx w hD hm h1 hX hG hc
    exact first_leaf T N l M g co X br cx w (by omega) hX (hG.ok hA (by omega) (by have := hv.n1; omega) (by have := hv.t1; omega) (fun s hs => by obtain ⟨a, b, c, d, e, _⟩ := hv.ok s hs; exact ⟨a, b, c, d, e⟩))
  | succ m ih =>
    intro X br cx w hD hm h1 hX hG hc
    refine first_step T N l hv M hA g co rs m X br cx w hD hm h1 hc hX hG ?_
    intro k g' c w' hG' hk hD' hX' hc'
    exact ih _ g' c w' hD' (by simp; omega) (by simp) hX' hG' hc'

theorem first_from (T N : Nat) (l : List Sp) (hv : Valid T N l) (M : List Nat) (hA : ApartOk T N l M) (g co : Nat) (rs : Nat → Nat) (w : World) (hD : DiffAt w g rs N M) :
    Calls Try.prog 53 #[.int .i64 T, .int .i64 N, .slice (some ⟨g, 0, none⟩) N co, .slice none 0 0] w (OptPost (plans T N l).head? w) := by
  obtain ⟨m, rfl⟩ : ∃ m, N = m + 1 := ⟨N - 1, by have := hv.n1; omega⟩
  refine first_top T (m + 1) l hv M hA g co rs m w hD (by simp) .nil ?_
  intro k g' c w' hG' hk hD' hX' hc'
  exact first_any T (m + 1) l hv M hA g co rs m [(k : Int)] g' c w' hD' (by simp; omega) (by simp) hX' hG' hc'
end Go.Proofs.Ytgamekcjjpjnnaa
