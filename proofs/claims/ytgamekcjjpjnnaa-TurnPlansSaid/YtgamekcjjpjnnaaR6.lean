/- The reference's search of all plans, walked. Its conditions are its premises. -/
import Derived.Test.YtgamekcjjpjnnaaR5
set_option linter.unusedVariables false
namespace Go.Proofs.Ytgamekcjjpjnnaa
open Go.RowKit

/-- What the search reads, away from what it writes. -/
structure Cx (w : World) (g : Nat) (rs : Nat → Nat) (N : Nat) (M : List Nat) (b off : Nat) (l : List Sp) (fb : Nat) : Prop where
  d : DiffAt w g rs N M
  s : SpansAt w b off l
  nb : b ≠ fb
  ng : g ≠ fb
  nr : ∀ i, i < N → rs i ≠ fb
theorem Cx.chg {w w' : World} {g N b off fb : Nat} {rs : Nat → Nat} {M : List Nat} {l : List Sp} (h : Cx w g rs N M b off l fb) (hc : Chg (fun k => k = fb) w w') : Cx w' g rs N M b off l fb :=
  ⟨h.d.chg hc h.ng h.nr, h.s.chg hc h.nb, h.nb, h.ng, h.nr⟩

theorem sumSl_bound {T : Int} {l : List Sp} {X : List Int} (h1 : 1 ≤ T) (h2 : T ≤ 24) (hl : l.length ≤ 20) : 0 ≤ sumSl T l X ∧ sumSl T l X ≤ 480 := by
  have hb : ∀ x ∈ (l.map fun s => slackV T s X), 0 ≤ x ∧ x ≤ 24 := fun x hx => by
    obtain ⟨s, _, rfl⟩ := List.mem_map.1 hx
    have := slackV_bounds h1 s X
    omega
  have := sum_take_bound hb l.length
  rw [List.take_of_length_le (by simp)] at this
  unfold sumSl
  omega
theorem fold_least {T : Int} {l : List Sp} (h1 : 1 ≤ T) (h2 : T ≤ 24) (hl : l.length ≤ 20) : ∀ (L : List (List Int)) (s : Best), 0 ≤ s.least ∧ s.least ≤ 480 → 0 ≤ (L.foldl (refStep T l) s).least ∧ (L.foldl (refStep T l) s).least ≤ 480 := by
  intro L
  induction L with
  | nil => intro s h; exact h
  | cons X L ih =>
    intro s h
    rw [List.foldl_cons]
    refine ih _ ?_
    have := sumSl_bound (X := X) h1 h2 hl
    unfold refStep
    split
    · exact this
    · exact h

set_option maxRecDepth 100000 in
set_option maxHeartbeats 1000000 in
theorem found_step (T N : Nat) (l : List Sp) (hv : Valid T N l) (a : Option Addr) (cap b off : Nat) (ha : l = [] ∨ a = some ⟨b, off, none⟩) (M : List Nat) (hA : ApartOk T N l M) (g co fb : Nat) (rs : Nat → Nat) (m : Nat) (X : List Int) (br cx : Nat) (s : Best) (w : World)
    (hD : Cx w g rs N M b off l fb) (hm : X.length + (m + 1) = N) (h1 : 1 ≤ X.length) (hcr : X.length ≤ cx) (hX : IntsAt w br 0 X) (hbr : br ≠ fb) (hG : GoodX T M X) (hF : FindAt w fb s) (hs0 : 0 ≤ s.many) (hs1 : s.many + (plansFrom T l (m + 1) X).length ≤ 10000) (hl0 : 0 ≤ s.least ∧ s.least ≤ 480)
    (ih : ∀ (k g' c : Nat) (s : Best) (w' : World), GoodX T M (X ++ [(k : Int)]) → k < T → Cx w' g rs N M b off l fb → FindAt w' fb s → g' ≠ fb → IntsAt w' g' 0 (X ++ [(k : Int)]) → (X ++ [(k : Int)]).length ≤ c →
      0 ≤ s.many → s.many + (plansFrom T l m (X ++ [(k : Int)])).length ≤ 10000 → 0 ≤ s.least ∧ s.least ≤ 480 →
      Calls Try.prog 74 #[.pointer (some ⟨fb, 0, none⟩), .int .i64 T, .int .i64 N, .slice a l.length cap, .slice (some ⟨g, 0, none⟩) N co, .slice (some ⟨g', 0, none⟩) (X ++ [(k : Int)]).length c] w' (FindPost fb ((plansFrom T l m (X ++ [(k : Int)])).foldl (refStep T l) s) w')) :
    Calls Try.prog 74 #[.pointer (some ⟨fb, 0, none⟩), .int .i64 T, .int .i64 N, .slice a l.length cap, .slice (some ⟨g, 0, none⟩) N co, .slice (some ⟨br, 0, none⟩) X.length cx] w (FindPost fb ((plansFrom T l (m + 1) X).foldl (refStep T l) s) w) := by
  obtain ⟨i0, hi0, hz0, hz1, hz2⟩ := info_parts info3
  have ht1 := hv.t1; have ht2 := hv.t2; have hn2 := hv.n2; have hl20 := hv.len
  obtain ⟨sF, hsF⟩ : ∃ sF, (plansFrom T l (m + 1) X).foldl (refStep T l) s = sF := ⟨_, rfl⟩
  rw [hsF]
  rw [← rest_zero] at hsF hs1
  have dlen : ((X.length : Int) == (N : Int)) = false := by rw [beq_eq_false_iff_ne]; first | omega | (simp at hm ⊢; omega)
  have HV := Lib.hid hv; have HA := Lib.hid hA; have HAA := Lib.hid ha; have HD := Lib.hid hD; have HG := Lib.hid hG; have HI := Lib.hid ih; have HF := Lib.hid hF; have HM := Lib.hid hm; have HS0 := Lib.hid hs0; have HS1 := Lib.hid hs1; have HL0 := Lib.hid hl0; have HSF := Lib.hid hsF
  have HI0 := Lib.hid hi0; have HZ0 := Lib.hid hz0; have HZ1 := Lib.hid hz1; have HZ2 := Lib.hid hz2
  have HX := Lib.hid hX; have HBR := Lib.hid hbr; clear hX hbr
  have hm6 := hm
  clear hv hA hD hG ih hF hm hs0 hs1 hl0 hsF hi0 hz0 hz1 hz2 ha
  go_enter Try.func74, Try.ntmps74
  go_wp2_with fail
  go_loopg [14] T (fun gm iv wr => ∃ (k : Nat) (s : Best), k ≤ T ∧ gm = T - k ∧ iv = .int .i64 (k : Nat) ∧ FindAt wr fb s ∧ (restFrom T l m X k).foldl (refStep T l) s = sF ∧ 0 ≤ s.many ∧ s.many + (restFrom T l m X k).length ≤ 10000 ∧ (0 ≤ s.least ∧ s.least ≤ 480) ∧ Chg (fun k => k = fb) w wr)
  case atStart => exact ⟨0, s, by omega, by omega, rfl, HF.out, HSF.out, HS0.out, HS1.out, HL0.out, Chg.refl _ w⟩
  case round =>
    clear HF HSF HS0 HS1 HL0
    obtain ⟨k, s1, hk, rfl, rfl, hF, hsF, hs0, hs1, hl0, hcg⟩ := hrel
    obtain ⟨bv, hb, _⟩ := id hF
    have hfbl := hb.lt
    have q0 := hb.cell_some (i := 0) rfl
    have HF := Lib.hid hF; have HSF := Lib.hid hsF; have HS0 := Lib.hid hs0; have HS1 := Lib.hid hs1; have HL0 := Lib.hid hl0; have HCG := Lib.hid hcg
    clear hF hsF hl0 hcg hb
    by_cases hkT : k < T
    · have dk : decide ((k : Int) < (T : Int)) = true := by rw [decide_eq_true_eq]; omega
      have dm : decide (s1.many ≤ 1000000) = true := by rw [decide_eq_true_eq]; omega
      clear hs0 hs1
      go_wp2_with fail
      refine (fits_any T N M g co rs X (some ⟨br, 0, none⟩) cx br k wr (by omega) (by omega) (by omega) (HD.out.chg HCG.out).d (HX.out.chg HCG.out HBR.out) (.inr rfl) HG.out.rng (by first | omega | (simp at hm6 ⊢; omega)) hkT).mono ?_
      rintro e w1 ⟨bf, rfl, hbf, x, rfl⟩
      have HBF := Lib.hid hbf
      have HC1 := Lib.hid (HCG.out.grow x)
      have HF1 := Lib.hid (HF.out.same (grow_chg wr x))
      have hsz0 : wr.heap.size ≤ (wr.grow x).heap.size := (grow_chg wr x).size
      clear hbf q0
      generalize wr.grow x = W at HC1 HF1 hsz0 ⊢
      cases bf with
      | false =>
        have HNF := Lib.hid (nofit (l := l) (m := m) HA.out HG.out.rng (by omega) HM.out hkT (fun h => by have := HBF.out.2 h; cases this))
        go_wp2_with fail
        go_roundg (T - (k + 1))
        case measure => omega
        case rel =>
          have e := rest_step (T := T) (m := m) (l := l) (X := X) hkT
          rw [HNF.out, List.nil_append] at e
          exact ⟨k + 1, s1, by omega, rfl, by go_num, HF1.out, by rw [← e]; exact HSF.out, HS0.out, by rw [← e]; exact HS1.out, HL0.out, HC1.out⟩
      | true =>
        have HGN := Lib.hid (HG.out.fit HA.out (by omega) hkT (by first | omega | (simp at hm6 ⊢; omega)) (HBF.out.1 rfl))
        have HNEW : Hid (∀ j u, [Value.int .i64 (k : Int)][j]? = some u → (W.alloc (Obj.cells #[.int .i64 (k : Int)] 3)).cell? ((⟨W.heap.size, 0, none⟩ : Addr).add j) = some u) := Lib.hid (fun j u hu => by
          rw [add_plain, Nat.zero_add]
          exact (Blk.new W #[.int .i64 (k : Int)] 3).cell_some hu)
        have HOLD : Hid (∀ j u, (X.map (Value.int .i64))[j]? = some u → (W.alloc (Obj.cells #[.int .i64 (k : Int)] 3)).cell? ((⟨br, 0, none⟩ : Addr).add j) = some u) := Lib.hid (fun j u hu => by
          rw [add_plain]
          simp at hu
          obtain ⟨x, hx, rfl⟩ := hu
          obtain ⟨hj, rfl⟩ := List.getElem?_eq_some_iff.1 hx
          exact ((HX.out.chg (HC1.out.alloc _) HBR.out) j hj))
        have HRS := Lib.hid (rest_step (T := T) (m := m) (l := l) (X := X) hkT)
        have HLEN : Hid (s1.many + (plansFrom T l m (X ++ [(k : Int)])).length ≤ 10000) := Lib.hid (by have h := HS1.out; rw [HRS.out, List.length_append] at h; (try simp only [List.nil_append] at h); omega)
        have hik := HI.out k
        have HIK := Lib.hid hik
        clear hik
        go_wp2_with (at_builtin; refine wpList_append_grows _ rfl (.tmp 91) (.tmp 93) 25 rfl 3 i0 (.int .i64 0) 1 8 Try.underlying25 HI0.out HZ0.out HZ1.out HZ2.out rfl (by decide) (some ⟨br, 0, none⟩) X.length X.length (X.map (Value.int .i64)) rfl (by intro h; cases h) (by simp) (fun b hb j u hu => by cases hb; exact HOLD.out j u hu) ⟨W.heap.size, 0, none⟩ 1 1 [.int .i64 (k : Int)] rfl rfl HNEW.out (by intro u hu; simp at hu; subst hu; rfl) (by omega) (by simp [maxLen]; try omega) (by omega) ?_; intro v1 w1 hown1 hgrow1; have HOWN1 := Lib.hid hown1; have HGROW1 := Lib.hid hgrow1; clear hown1 hgrow1)
        have hown1 := HOWN1.out
        have hcw : Chg (fun _ => False) W w1 := ((Chg.refl (fun _ => False) W).alloc _).trans (Chg.of_grown HGROW1.out) (fun _ x => x.elim)
        have hc3 : Chg (fun k => k = fb) w w1 := HC1.out.trans hcw (fun _ x => x.elim)
        obtain ⟨g1, c1, rfl, hg1, hg2, hI3, hgc⟩ := owns_ints (X := (X ++ [(k : Int)])) (by rw [List.map_append]; exact hown1) (by simp)
        simp only [World.size_alloc] at hg1
        have HC3 := Lib.hid hc3; have HI3 := Lib.hid hI3; have HF3 := Lib.hid (HF1.out.same hcw)
        clear hc3 hI3 hown1 HOWN1 HGROW1 HNEW hcw
        go_at_call 74
        refine (HIK.out g1 c1 s1 w1 HGN.out hkT (HD.out.chg HC3.out) HF3.out (by omega) HI3.out hgc HS0.out HLEN.out HL0.out).mono ?_
        rintro e w' ⟨rfl, hF4, hc4⟩
        have HC4 := Lib.hid (HC3.out.trans hc4 (fun _ x => .inl x))
        have HF4 := Lib.hid hF4
        clear hc4 hF4
        go_wp2_with fail
        go_roundg (T - (k + 1))
        case measure => omega
        case rel =>
          have h1 := HSF.out
          rw [HRS.out, List.foldl_append] at h1
          have h2 := HS1.out
          rw [HRS.out, List.length_append] at h2
          have h3 := fold_many (T := (T : Int)) (l := l) (plansFrom T l m (X ++ [(k : Int)])) s1
          have h4 := HS0.out
          try simp only [List.nil_append] at h2 h3
          exact ⟨k + 1, _, by omega, rfl, by go_num, HF4.out, h1, by omega, by omega, fold_least (by omega) (by omega) hl20 _ _ HL0.out, HC4.out⟩
    · obtain rfl : k = T := by omega
      have dk : decide ((k : Int) < (k : Int)) = false := by rw [decide_eq_false_iff_not]; omega
      have h1 := HSF.out
      rw [rest_end] at h1
      have h2 : s1 = sF := h1
      subst h2
      clear h1 hs0 hs1
      go_wp2_with fail
      go_end0
      exact ⟨rfl, HF.out, HCG.out⟩

set_option maxRecDepth 100000 in
set_option maxHeartbeats 1000000 in
theorem found_top (T N : Nat) (l : List Sp) (hv : Valid T N l) (a : Option Addr) (cap b off : Nat) (ha : l = [] ∨ a = some ⟨b, off, none⟩) (M : List Nat) (hA : ApartOk T N l M) (g co fb : Nat) (rs : Nat → Nat) (m : Nat) (s : Best) (w : World)
    (hD : Cx w g rs N M b off l fb) (hm : ([] : List Int).length + (m + 1) = N) (hG : GoodX T M ([] : List Int)) (hF : FindAt w fb s) (hs0 : 0 ≤ s.many) (hs1 : s.many + (plansFrom T l (m + 1) ([] : List Int)).length ≤ 10000) (hl0 : 0 ≤ s.least ∧ s.least ≤ 480)
    (ih : ∀ (k g' c : Nat) (s : Best) (w' : World), GoodX T M ([(k : Int)]) → k < T → Cx w' g rs N M b off l fb → FindAt w' fb s → g' ≠ fb → IntsAt w' g' 0 ([(k : Int)]) → ([(k : Int)]).length ≤ c →
      0 ≤ s.many → s.many + (plansFrom T l m ([(k : Int)])).length ≤ 10000 → 0 ≤ s.least ∧ s.least ≤ 480 →
      Calls Try.prog 74 #[.pointer (some ⟨fb, 0, none⟩), .int .i64 T, .int .i64 N, .slice a l.length cap, .slice (some ⟨g, 0, none⟩) N co, .slice (some ⟨g', 0, none⟩) ([(k : Int)]).length c] w' (FindPost fb ((plansFrom T l m ([(k : Int)])).foldl (refStep T l) s) w')) :
    Calls Try.prog 74 #[.pointer (some ⟨fb, 0, none⟩), .int .i64 T, .int .i64 N, .slice a l.length cap, .slice (some ⟨g, 0, none⟩) N co, .slice none 0 0] w (FindPost fb ((plansFrom T l (m + 1) ([] : List Int)).foldl (refStep T l) s) w) := by
  obtain ⟨i0, hi0, hz0, hz1, hz2⟩ := info_parts info3
  have ht1 := hv.t1; have ht2 := hv.t2; have hn2 := hv.n2; have hl20 := hv.len
  obtain ⟨sF, hsF⟩ : ∃ sF, (plansFrom T l (m + 1) ([] : List Int)).foldl (refStep T l) s = sF := ⟨_, rfl⟩
  rw [hsF]
  rw [← rest_zero] at hsF hs1
  have dlen : ((0 : Int) == (N : Int)) = false := by rw [beq_eq_false_iff_ne]; first | omega | (simp at hm ⊢; omega)
  have HV := Lib.hid hv; have HA := Lib.hid hA; have HAA := Lib.hid ha; have HD := Lib.hid hD; have HG := Lib.hid hG; have HI := Lib.hid ih; have HF := Lib.hid hF; have HM := Lib.hid hm; have HS0 := Lib.hid hs0; have HS1 := Lib.hid hs1; have HL0 := Lib.hid hl0; have HSF := Lib.hid hsF
  have HI0 := Lib.hid hi0; have HZ0 := Lib.hid hz0; have HZ1 := Lib.hid hz1; have HZ2 := Lib.hid hz2
  skip
  have hm6 := hm
  clear hv hA hD hG ih hF hm hs0 hs1 hl0 hsF hi0 hz0 hz1 hz2 ha
  go_enter Try.func74, Try.ntmps74
  go_wp2_with fail
  go_loopg [14] T (fun gm iv wr => ∃ (k : Nat) (s : Best), k ≤ T ∧ gm = T - k ∧ iv = .int .i64 (k : Nat) ∧ FindAt wr fb s ∧ (restFrom T l m ([] : List Int) k).foldl (refStep T l) s = sF ∧ 0 ≤ s.many ∧ s.many + (restFrom T l m ([] : List Int) k).length ≤ 10000 ∧ (0 ≤ s.least ∧ s.least ≤ 480) ∧ Chg (fun k => k = fb) w wr)
  case atStart => exact ⟨0, s, by omega, by omega, rfl, HF.out, HSF.out, HS0.out, HS1.out, HL0.out, Chg.refl _ w⟩
  case round =>
    clear HF HSF HS0 HS1 HL0
    obtain ⟨k, s1, hk, rfl, rfl, hF, hsF, hs0, hs1, hl0, hcg⟩ := hrel
    obtain ⟨bv, hb, _⟩ := id hF
    have hfbl := hb.lt
    have q0 := hb.cell_some (i := 0) rfl
    have HF := Lib.hid hF; have HSF := Lib.hid hsF; have HS0 := Lib.hid hs0; have HS1 := Lib.hid hs1; have HL0 := Lib.hid hl0; have HCG := Lib.hid hcg
    clear hF hsF hl0 hcg hb
    by_cases hkT : k < T
    · have dk : decide ((k : Int) < (T : Int)) = true := by rw [decide_eq_true_eq]; omega
      have dm : decide (s1.many ≤ 1000000) = true := by rw [decide_eq_true_eq]; omega
      clear hs0 hs1
      go_wp2_with fail
      refine (fits_any T N M g co rs ([] : List Int) none 0 0 k wr (by omega) (by omega) (by omega) (HD.out.chg HCG.out).d (fun k hk => by simp at hk) (.inl rfl) HG.out.rng (by first | omega | (simp at hm6 ⊢; omega)) hkT).mono ?_
      rintro e w1 ⟨bf, rfl, hbf, x, rfl⟩
      have HBF := Lib.hid hbf
      have HC1 := Lib.hid (HCG.out.grow x)
      have HF1 := Lib.hid (HF.out.same (grow_chg wr x))
      have hsz0 : wr.heap.size ≤ (wr.grow x).heap.size := (grow_chg wr x).size
      clear hbf q0
      generalize wr.grow x = W at HC1 HF1 hsz0 ⊢
      cases bf with
      | false =>
        have HNF := Lib.hid (nofit (l := l) (m := m) HA.out HG.out.rng (by omega) HM.out hkT (fun h => by have := HBF.out.2 h; cases this))
        go_wp2_with fail
        go_roundg (T - (k + 1))
        case measure => omega
        case rel =>
          have e := rest_step (T := T) (m := m) (l := l) (X := ([] : List Int)) hkT
          rw [HNF.out, List.nil_append] at e
          exact ⟨k + 1, s1, by omega, rfl, by go_num, HF1.out, by rw [← e]; exact HSF.out, HS0.out, by rw [← e]; exact HS1.out, HL0.out, HC1.out⟩
      | true =>
        have HGN := Lib.hid (HG.out.fit HA.out (by omega) hkT (by first | omega | (simp at hm6 ⊢; omega)) (HBF.out.1 rfl))
        have HNEW : Hid (∀ j u, [Value.int .i64 (k : Int)][j]? = some u → (W.alloc (Obj.cells #[.int .i64 (k : Int)] 3)).cell? ((⟨W.heap.size, 0, none⟩ : Addr).add j) = some u) := Lib.hid (fun j u hu => by
          rw [add_plain, Nat.zero_add]
          exact (Blk.new W #[.int .i64 (k : Int)] 3).cell_some hu)
        skip
        have HRS := Lib.hid (rest_step (T := T) (m := m) (l := l) (X := ([] : List Int)) hkT)
        have HLEN : Hid (s1.many + (plansFrom T l m ([(k : Int)])).length ≤ 10000) := Lib.hid (by have h := HS1.out; rw [HRS.out, List.length_append] at h; (try simp only [List.nil_append] at h); omega)
        have hik := HI.out k
        have HIK := Lib.hid hik
        clear hik
        go_wp2_with (at_builtin; refine wpList_append_grows _ rfl (.tmp 91) (.tmp 93) 25 rfl 3 i0 (.int .i64 0) 1 8 Try.underlying25 HI0.out HZ0.out HZ1.out HZ2.out rfl (by decide) none 0 0 [] rfl (fun _ => ⟨rfl, rfl⟩) rfl (fun b hb j u hu => by cases hb) ⟨W.heap.size, 0, none⟩ 1 1 [.int .i64 (k : Int)] rfl rfl HNEW.out (by intro u hu; simp at hu; subst hu; rfl) (by omega) (by simp [maxLen]; try omega) (by omega) ?_; intro v1 w1 hown1 hgrow1; have HOWN1 := Lib.hid hown1; have HGROW1 := Lib.hid hgrow1; clear hown1 hgrow1)
        have hown1 := HOWN1.out
        have hcw : Chg (fun _ => False) W w1 := ((Chg.refl (fun _ => False) W).alloc _).trans (Chg.of_grown HGROW1.out) (fun _ x => x.elim)
        have hc3 : Chg (fun k => k = fb) w w1 := HC1.out.trans hcw (fun _ x => x.elim)
        obtain ⟨g1, c1, rfl, hg1, hg2, hI3, hgc⟩ := owns_ints (X := ([(k : Int)])) hown1 (by simp)
        simp only [World.size_alloc] at hg1
        have HC3 := Lib.hid hc3; have HI3 := Lib.hid hI3; have HF3 := Lib.hid (HF1.out.same hcw)
        clear hc3 hI3 hown1 HOWN1 HGROW1 HNEW hcw
        go_at_call 74
        refine (HIK.out g1 c1 s1 w1 HGN.out hkT (HD.out.chg HC3.out) HF3.out (by omega) HI3.out hgc HS0.out HLEN.out HL0.out).mono ?_
        rintro e w' ⟨rfl, hF4, hc4⟩
        have HC4 := Lib.hid (HC3.out.trans hc4 (fun _ x => .inl x))
        have HF4 := Lib.hid hF4
        clear hc4 hF4
        go_wp2_with fail
        go_roundg (T - (k + 1))
        case measure => omega
        case rel =>
          have h1 := HSF.out
          rw [HRS.out, List.foldl_append] at h1
          have h2 := HS1.out
          rw [HRS.out, List.length_append] at h2
          have h3 := fold_many (T := (T : Int)) (l := l) (plansFrom T l m (([] : List Int) ++ [(k : Int)])) s1
          have h4 := HS0.out
          try simp only [List.nil_append] at h2 h3
          exact ⟨k + 1, _, by omega, rfl, by go_num, HF4.out, h1, by omega, by omega, fold_least (by omega) (by omega) hl20 _ _ HL0.out, HC4.out⟩
    · obtain rfl : k = T := by omega
      have dk : decide ((k : Int) < (k : Int)) = false := by rw [decide_eq_false_iff_not]; omega
      have h1 := HSF.out
      rw [rest_end] at h1
      have h2 : s1 = sF := h1
      subst h2
      clear h1 hs0 hs1
      go_wp2_with fail
      go_end0
      exact ⟨rfl, HF.out, HCG.out⟩

theorem found_any (T N : Nat) (l : List Sp) (hv : Valid T N l) (a : Option Addr) (cap b off : Nat) (ha : l = [] ∨ a = some ⟨b, off, none⟩) (M : List Nat) (hA : ApartOk T N l M) (g co fb : Nat) (rs : Nat → Nat) : ∀ (m : Nat) (X : List Int) (br cx : Nat) (s : Best) (w : World),
    Cx w g rs N M b off l fb → X.length + m = N → 1 ≤ X.length → IntsAt w br 0 X → GoodX T M X → X.length ≤ cx → br ≠ fb → FindAt w fb s → 0 ≤ s.many → s.many + (plansFrom T l m X).length ≤ 10000 → 0 ≤ s.least ∧ s.least ≤ 480 →
    Calls Try.prog 74 #[.pointer (some ⟨fb, 0, none⟩), .int .i64 T, .int .i64 N, .slice a l.length cap, .slice (some ⟨g, 0, none⟩) N co, .slice (some ⟨br, 0, none⟩) X.length cx] w (FindPost fb ((plansFrom T l m X).foldl (refStep T l) s) w) := by
  intro m
  induction m with
  | zero =>
    intro X br cx s w hD hm h1 hX hG hc hbf hF h2 h3 h4
    have hok := hG.ok hA (by omega) (by have := hv.n1; omega) (by have := hv.t1; omega) (fun s hs => by obtain ⟨a, b, c, d, e, _⟩ := hv.ok s hs; exact ⟨a, b, c, d, e⟩)
    have e : plansFrom T l 0 X = [X] := by unfold plansFrom; rw [if_pos hok]
    rw [e] at h3 ⊢
    simp at h3
    exact found_leaf T N l hv a cap b off g co fb X br cx s w hD.s ha (by omega) hX (inHours_of (by omega) hG.rng) hF hbf ⟨h2, by omega⟩ ⟨h4.1, by omega⟩
  | succ m ih =>
    intro X br cx s w hD hm h1 hX hG hc hbf hF h2 h3 h4
    refine found_step T N l hv a cap b off ha M hA g co fb rs m X br cx s w hD hm h1 hc hX hbf hG hF h2 h3 h4 ?_
    intro k g' c s' w' hG' hk hD' hF' hg' hX' hc' h5 h6 h7
    exact ih _ g' c s' w' hD' (by simp; omega) (by simp) hX' hG' hc' hg' hF' h5 h6 h7

theorem found_from (T N : Nat) (l : List Sp) (hv : Valid T N l) (a : Option Addr) (cap b off : Nat) (ha : l = [] ∨ a = some ⟨b, off, none⟩) (M : List Nat) (hA : ApartOk T N l M) (g co fb : Nat) (rs : Nat → Nat) (w : World) (hD : Cx w g rs N M b off l fb)
    (hF : FindAt w fb ⟨none, 0, 0⟩) (hm : (plans T N l).length ≤ 10000) :
    Calls Try.prog 74 #[.pointer (some ⟨fb, 0, none⟩), .int .i64 T, .int .i64 N, .slice a l.length cap, .slice (some ⟨g, 0, none⟩) N co, .slice none 0 0] w (FindPost fb ((plans T N l).foldl (refStep T l) ⟨none, 0, 0⟩) w) := by
  obtain ⟨m, rfl⟩ : ∃ m, N = m + 1 := ⟨N - 1, by have := hv.n1; omega⟩
  refine found_top T (m + 1) l hv a cap b off ha M hA g co fb rs m ⟨none, 0, 0⟩ w hD (by simp) .nil hF (by simp) (by unfold plans at hm; dsimp only; omega) (by simp) ?_
  intro k g' c s' w' hG' hk hD' hF' hg' hX' hc' h5 h6 h7
  exact found_any T (m + 1) l hv a cap b off ha M hA g co fb rs m [(k : Int)] g' c s' w' hD' (by simp; omega) (by simp) hX' hG' hc' hg' hF' h5 h6 h7
end Go.Proofs.Ytgamekcjjpjnnaa
