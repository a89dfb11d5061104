/- Bridges, of the program and of the reference, and the comparison of lists, walked. Their conditions are their premises. -/
import Derived.Test.YtmmpdfcnenljhaaF3
set_option linter.unusedVariables false
namespace Go.Proofs.Ytmmpdfcnenljhaa
open Go.RowKit

theorem same_any (xs ys : List Int) (a1 a2 : Option Addr) (b1 o1 b2 o2 c1 c2 : Nat) (w : World) (h1 : IntsAt w b1 o1 xs) (h2 : IntsAt w b2 o2 ys)
    (k1 : xs = [] ∨ a1 = some ⟨b1, o1, none⟩) (k2 : ys = [] ∨ a2 = some ⟨b2, o2, none⟩) (l1 : xs.length ≤ 1000) (l2 : ys.length ≤ 1000) :
    Calls Try.prog 18 #[.slice a1 xs.length c1, .slice a2 ys.length c2] w fun e w' => e = .returned (.bool (decide (xs = ys))) ∧ ∃ x, w' = w.grow x := by
  by_cases hl : xs.length = ys.length
  · have hb : ((xs.length : Int) != (ys.length : Int)) = false := by simp; omega
    have hle : xs.length ≤ ys.length := by omega
    have HL := Lib.hid hl; clear hl
    go_enter Try.func18, Try.ntmps18
    go_wp2
    go_loopw [5] (fun i wr => ∃ k : Nat, i = .int .i64 k ∧ k ≤ xs.length ∧ (∀ j (h : j < xs.length) (h' : j < ys.length), j < k → xs[j] = ys[j]) ∧ ∃ x, wr = w.grow x) (fun i _ => xs.length - (intOf i).toNat)
    case atStart => exact ⟨0, rfl, by omega, by omega, w.grow_refl⟩
    case round =>
      obtain ⟨k, rfl, hk, hsame, x, rfl⟩ := hrel
      by_cases hlt : k < xs.length
      · have hlt2 : k < ys.length := by omega
        have e1 : a1 = some ⟨b1, o1, none⟩ := k1.resolve_left (by intro h; simp [h] at hlt)
        have e2 : a2 = some ⟨b2, o2, none⟩ := k2.resolve_left (by intro h; simp [h] at hlt2)
        subst e1 e2
        have g1 := World.grow_cell (h1 k hlt) x
        have g2 := World.grow_cell (h2 k hlt2) x
        have HS := Lib.hid hsame; clear hsame
        clear h1 h2 k1 k2
        by_cases heq : xs[k] = ys[k]
        · have hq : (xs[k] != ys[k]) = false := by simp [heq]
          have HE := Lib.hid heq; clear heq
          go_wp2
          go_quiet (fail)
          go_wp2
          go_roundw
          case rel => exact ⟨k + 1, by go_num, by omega, fun j h h2 hj => by
            rcases Nat.lt_succ_iff_lt_or_eq.1 hj with h' | rfl
            · exact HS.out j h h2 h'
            · exact HE.out, by obtain ⟨y, hy⟩ := World.grow_drewN (w.grow x) nq; rw [hy]; exact World.grow_grow _ _ _⟩
          case measure => simp [intOf]; omega
        · have hq : (xs[k] != ys[k]) = true := by simp [heq]
          go_wp2
          go_quiet (fail)
          go_wp2
          go_ret
          refine ⟨ret_bool ?_, by obtain ⟨y, hy⟩ := World.grow_drewN (w.grow x) nq; rw [hy]; exact World.grow_grow _ _ _⟩
          symm
          rw [decide_eq_false_iff_not]
          rintro rfl
          exact heq rfl
      · go_wp2
        go_ret
        refine ⟨ret_bool ?_, _, rfl⟩
        symm
        rw [decide_eq_true_eq]
        exact List.ext_getElem HL.out fun j h h2 => hsame j h h2 (by omega)
  · have hb : ((xs.length : Int) != (ys.length : Int)) = true := by simp; omega
    go_enter Try.func18, Try.ntmps18
    go_wp2
    go_ret
    refine ⟨ret_bool ?_, w.grow_refl⟩
    symm
    rw [decide_eq_false_iff_not]
    rintro rfl
    exact hl rfl

/-- A list and an error, in new memory. -/
def LPost (r : List Int × Int) (w : World) (e : Ending) (w' : World) : Prop :=
  ∃ ao c g, e = .returned (.tuple #[.slice ao r.1.length c, .int .i64 r.2]) ∧ (r.1 = [] ∨ ao = some ⟨g, 0, none⟩) ∧ IntsAt w' g 0 r.1 ∧ Chg (fun _ => False) w w'

theorem LPost.nil {w w' : World} {e : Int} (hc : Chg (fun _ => False) w w') : LPost ([], e) w (.returned (.tuple #[.slice none 0 0, .int .i64 e])) w' :=
  ⟨none, 0, 0, rfl, .inl rfl, fun k hk => by simp at hk, hc⟩

theorem LPost.some {w w' : World} {e : Int} {X : List Int} {g c : Nat} (hc : Chg (fun _ => False) w w') (hI : IntsAt w' g 0 X) : LPost (X, e) w (.returned (.tuple #[.slice (some ⟨g, 0, none⟩) X.length c, .int .i64 e])) w' :=
  ⟨_, c, g, rfl, .inr rfl, hI, hc⟩

/-- The first k fences that are bridges. -/
def brL (N : Nat) (l : List Fe) (k : Nat) : List Int := ((List.range k).filter (bridgeB N l)).map fun (i : Nat) => (i : Int)
theorem brL_yes {N : Nat} {l : List Fe} {k : Nat} (h : bridgeB N l k = true) : brL N l (k + 1) = brL N l k ++ [(k : Int)] := by
  unfold brL; rw [List.range_succ, List.filter_append, List.map_append]; simp [h]
theorem brL_no {N : Nat} {l : List Fe} {k : Nat} (h : bridgeB N l k = false) : brL N l (k + 1) = brL N l k := by
  unfold brL; rw [List.range_succ, List.filter_append, List.map_append]; simp [h]
theorem brL_len (N : Nat) (l : List Fe) (k : Nat) : (brL N l k).length ≤ k := by
  unfold brL; rw [List.length_map]; have := List.length_filter_le (bridgeB N l) (List.range k); simpa using this
/-- What Bridges answers. -/
def bridgesE (n : Int) (l : List Fe) : List Int × Int := if gardenE n l ≠ 0 then ([], gardenE n l) else (brL n.toNat l l.length, 0)
theorem bridgesE_err {n : Int} {l : List Fe} (h : gardenE n l ≠ 0) : bridgesE n l = ([], gardenE n l) := by unfold bridgesE; rw [if_pos h]
theorem bridgesE_ok {N : Nat} {l : List Fe} (h : gardenE N l = 0) : bridgesE N l = (brL N l l.length, 0) := by unfold bridgesE; rw [if_neg (by simpa using h), Int.toNat_natCast]
theorem bridgesE_len (n : Int) (l : List Fe) : (bridgesE n l).1.length ≤ 1000 := by
  unfold bridgesE
  split
  · simp
  · rename_i h
    have := brL_len n.toNat l l.length
    have := (valid_of (by simpa using h)).len
    dsimp only
    omega

set_option maxRecDepth 100000 in
set_option maxHeartbeats 1000000 in
theorem Bridges_any (n : Int) (l : List Fe) (a : Option Addr) (cap b off : Nat) (w : World) (hs : FencesAt w b off l) (ha : l = [] ∨ a = some ⟨b, off, none⟩) :
    Calls Try.prog 16 #[.int .i64 n, .slice a l.length cap] w (LPost (bridgesE n l) w) := by
  obtain ⟨i0, hi0, hz0, hz1, hz2⟩ := info_parts info3
  have HI0 := Lib.hid hi0; have HZ0 := Lib.hid hz0; have HZ1 := Lib.hid hz1; have HZ2 := Lib.hid hz2
  have HS := Lib.hid hs; have HA := Lib.hid ha
  clear hs ha hi0 hz0 hz1 hz2
  go_enter Try.func16, Try.ntmps16
  go_wp2_with fail
  refine (of_any n l a cap b off w HS.out HA.out).mono ?_
  rintro e w1 ⟨hc1, ⟨h0, rfl⟩ | ⟨h0, p, rfl, hp⟩⟩
  · have hq : (gardenE n l != 0) = true := by simpa using h0
    have H0 := Lib.hid (bridgesE_err h0); have HC := Lib.hid hc1
    clear h0 hc1
    go_wp2_with fail
    go_ret2
    rw [H0.out]
    exact .nil HC.out
  · have HP := Lib.hid hp
    clear hp
    have hv := valid_of h0
    obtain ⟨N, rfl⟩ : ∃ N : Nat, n = N := ⟨n.toNat, by have := hv.n1; omega⟩
    have hl14 := hv.len
    have H0 := Lib.hid (bridgesE_ok h0); have HC := Lib.hid hc1; have HV := Lib.hid hv
    clear h0 hc1 hv
    go_wp2_with fail
    skip
    go_loopg [8, 21] l.length (fun g v iv wr => ∃ i : Nat, i ≤ l.length ∧ g = l.length - i ∧ iv = .int .i64 i ∧ wr.ownsRow w1.heap.size 3 1 v (brL N l i).length ((brL N l i).map (Value.int .i64)) ∧ Chg (fun _ => False) w1 wr)
    case atStart => exact ⟨0, by omega, by omega, rfl, World.ownsRow_nil _ _ _ _, Chg.refl _ w1⟩
    case round =>
      obtain ⟨i, hi, rfl, rfl, hown, hcg⟩ := hrel
      have HOWN := Lib.hid hown; have HCG := Lib.hid hcg
      clear hown hcg
      by_cases hlt : i < l.length
      · skip
        have hbl := brL_len N l i
        go_wp2_with fail
        skip
        refine (bridge_any N l a cap b off p i wr HV.out (HS.out.chg (HC.out.trans HCG.out (fun _ x => x.elim)) (fun x => x)) HA.out (HP.out.chg HCG.out (fun x => x)) hlt).mono ?_
        rintro e w2 ⟨rfl, hc2⟩
        have HC2 := Lib.hid (HCG.out.trans hc2 (fun _ x => x.elim)); have HCW := Lib.hid hc2
        clear hc2
        obtain ⟨bb, hbb⟩ : ∃ bb, bridgeB N l i = bb := ⟨_, rfl⟩
        rw [hbb]
        have HBB := Lib.hid hbb
        clear hbb
        have HOW := Lib.hid (owns_chg HOWN.out HCW.out)
        have hsz : w1.heap.size ≤ w2.heap.size := HC2.out.size
        cases bb with
        | false =>
          have HNX := Lib.hid (brL_no HBB.out)
          go_wp2_with fail
          go_roundg (l.length - (i + 1))
          case measure => omega
          case rel => exact ⟨i + 1, by omega, rfl, by go_num, by rw [HNX.out]; exact HOW.out, HC2.out⟩
        | true =>
          have HNX := Lib.hid (brL_yes HBB.out)
          have HNEW : Hid (∀ j u, [Value.int .i64 (i : Int)][j]? = some u → (w2.alloc (Obj.cells #[.int .i64 (i : Int)] 3)).cell? ((⟨w2.heap.size, 0, none⟩ : Addr).add j) = some u) := Lib.hid (fun j u hu => by
            rw [add_plain, Nat.zero_add]
            exact (Blk.new w2 #[.int .i64 (i : Int)] 3).cell_some hu)
          obtain ⟨cn, hcn⟩ : ∃ cn, (brL N l i).length = cn := ⟨_, rfl⟩
          rw [hcn] at HOW hbl
          have HCN := Lib.hid hcn
          clear hcn
          go_wp2_with (at_builtin; refine wpList_append_two rfl (.tmp 27) (.tmp 29) 40 rfl w1.heap.size 3 i0 (.int .i64 0) 1 8 Try.underlying40 HI0.out HZ0.out HZ1.out HZ2.out rfl (by decide) _ cn ((brL N l i).map (Value.int .i64)) rfl (HOW.out.alloc _) ⟨w2.heap.size, 0, none⟩ 1 1 [.int .i64 (i : Int)] rfl rfl HNEW.out (by intro u hu; simp at hu; subst hu; rfl) (by simp [maxLen]; omega) (by omega) (by simp; omega) ?_; intro v1 w3 hown1 hgrow1 hv1; have HOWN1 := Lib.hid hown1; have HGROW1 := Lib.hid hgrow1; clear hown1 hgrow1 hv1)
          go_roundg (l.length - (i + 1))
          case measure => omega
          case rel =>
            refine ⟨i + 1, by omega, rfl, by go_num, ?_, (HC2.out.alloc _).trans (Chg.of_grownRow HGROW1.out) (fun kk hk => .inr ((HOW.out.lt kk hk.symm).1))⟩
            rw [HNX.out, List.length_append, List.map_append, HCN.out]
            exact HOWN1.out
      · obtain rfl : i = l.length := by omega
        obtain ⟨L, hL⟩ : ∃ L, brL N l l.length = L := ⟨_, rfl⟩
        have how := HOWN.out
        rw [hL] at how
        have HL3 := Lib.hid hL
        obtain ⟨ao, g, c', hv1, h1, h2, h3⟩ := owns_list how
        have HH1 := Lib.hid h1; have HH2 := Lib.hid h2
        subst hv1
        clear h1 h2 how HOWN hL hlt
        go_wp2_with fail
        go_ret2
        rw [H0.out, HL3.out]
        exact ⟨ao, c', g, rfl, HH1.out, HH2.out, HC.out.trans HCG.out (fun _ x => x.elim)⟩

set_option maxRecDepth 100000 in
set_option maxHeartbeats 1000000 in
theorem rBridges_any (n : Int) (l : List Fe) (a : Option Addr) (cap b off : Nat) (w : World) (hs : FencesAt w b off l) (ha : l = [] ∨ a = some ⟨b, off, none⟩) :
    Calls Try.prog 17 #[.int .i64 n, .slice a l.length cap] w (LPost (bridgesE n l) w) := by
  obtain ⟨i0, hi0, hz0, hz1, hz2⟩ := info_parts info3
  have HI0 := Lib.hid hi0; have HZ0 := Lib.hid hz0; have HZ1 := Lib.hid hz1; have HZ2 := Lib.hid hz2
  have HS := Lib.hid hs; have HA := Lib.hid ha
  clear hs ha hi0 hz0 hz1 hz2
  go_enter Try.func17, Try.ntmps17
  go_wp2_with fail
  refine (Garden_any n l a cap b off w HS.out HA.out).mono ?_
  rintro e w1 ⟨rfl, hc1⟩
  by_cases h0 : gardenE n l ≠ 0
  · have hq : (gardenE n l != 0) = true := by simpa using h0
    have H0 := Lib.hid (bridgesE_err h0); have HC := Lib.hid hc1
    clear h0 hc1
    go_wp2_with fail
    go_ret2
    rw [H0.out]
    exact .nil HC.out
  · rw [Decidable.of_not_not h0]
    have h0 := Decidable.of_not_not h0
    obtain ⟨h1, h2⟩ := all_wraps (valid_of h0).len
    obtain ⟨A, hA⟩ : ∃ A, allV l = A := ⟨_, rfl⟩
    have hA16 : A < 2 ^ 14 := by rw [← hA]; exact allV_lt (valid_of h0).len
    have h3 : wrap64 ((2 : Int) ^ l.length - 1) = (A : Int) := by rw [h2, ← hA]; rfl
    have HAA := Lib.hid hA
    clear h2 hA
    have hv := valid_of h0
    obtain ⟨N, rfl⟩ : ∃ N : Nat, n = N := ⟨n.toNat, by have := hv.n1; omega⟩
    have hl14 := hv.len
    have H0 := Lib.hid (bridgesE_ok h0); have HC := Lib.hid hc1; have HV := Lib.hid hv
    clear h0 hc1 hv
    go_wp2_with fail
    rw [h3, h1]; clear h3 h1
    go_loopg [8, 9] l.length (fun g v iv wr => ∃ i : Nat, i ≤ l.length ∧ g = l.length - i ∧ iv = .int .i64 i ∧ wr.ownsRow w1.heap.size 3 1 v (brL N l i).length ((brL N l i).map (Value.int .i64)) ∧ Chg (fun _ => False) w1 wr)
    case atStart => exact ⟨0, by omega, by omega, rfl, World.ownsRow_nil _ _ _ _, Chg.refl _ w1⟩
    case round =>
      obtain ⟨i, hi, rfl, rfl, hown, hcg⟩ := hrel
      have HOWN := Lib.hid hown; have HCG := Lib.hid hcg
      clear hown hcg
      by_cases hlt : i < l.length
      · obtain ⟨B, hB⟩ : ∃ B, A - 2 ^ i = B := ⟨_, rfl⟩
        have hBA : B ≤ A := by rw [← hB]; exact Nat.sub_le _ _
        have hB62 : B < 2 ^ 62 := by omega
        have hpw : 2 ^ i ≤ A := by
          rw [← HAA.out]; unfold allV
          have h5 : 2 ^ (i + 1) ≤ 2 ^ l.length := Nat.pow_le_pow_right (by omega) (by omega)
          rw [Nat.pow_succ] at h5
          have := Nat.two_pow_pos i
          omega
        have hsub : (A : Int) - (2 : Int) ^ i = (B : Int) := by
          rw [← hB, Int.natCast_sub hpw]; simp
        have hwk := i64_pow (c := i) (by omega)
        rw [show ((2 ^ i : Nat) : Int) = (2 : Int) ^ i by simp] at hwk
        have HBV := Lib.hid hB
        have HG : Hid (∀ (B : Nat), B < 2 ^ 62 → Calls Try.prog 38 #[.int .i64 N, .slice a l.length cap, .int .i64 (B : Nat)] wr fun e w' => e = .returned (.int .i64 (groupsV N l B)) ∧ Chg (fun _ => False) wr w') := Lib.hid (fun B hB => rgroups_any N l a cap b off B wr HV.out (HS.out.chg (HC.out.trans HCG.out (fun _ x => x.elim)) (fun x => x)) HA.out hB)
        clear hB hpw
        have hbl := brL_len N l i
        go_wp2_with fail
        try rw [hsub]
        refine (HG.out B hB62).mono ?_
        rintro e w2a ⟨rfl, hc2⟩
        have HC2a := Lib.hid (HCG.out.trans hc2 (fun _ x => x.elim)); have HCWa := Lib.hid hc2
        clear hc2
        go_wp2_with fail
        refine (rgroups_any N l a cap b off A w2a HV.out (HS.out.chg (HC.out.trans HC2a.out (fun _ x => x.elim)) (fun x => x)) HA.out (by omega)).mono ?_
        rintro e w2 ⟨rfl, hc2⟩
        have HC2 := Lib.hid (HC2a.out.trans hc2 (fun _ x => x.elim)); have HCW := Lib.hid (HCWa.out.trans hc2 (fun _ x => x.elim))
        clear hc2
        obtain ⟨bb, hbb⟩ : ∃ bb, decide (groupsV N l A < groupsV N l B) = bb := ⟨_, rfl⟩
        have HBB := Lib.hid (show bridgeB N l i = bb by unfold bridgeB; rw [HAA.out, HBV.out]; exact hbb)
        have dbb := hbb
        clear hbb
        have HOW := Lib.hid (owns_chg HOWN.out HCW.out)
        have hsz : w1.heap.size ≤ w2.heap.size := HC2.out.size
        cases bb with
        | false =>
          have HNX := Lib.hid (brL_no HBB.out)
          go_wp2_with fail
          go_roundg (l.length - (i + 1))
          case measure => omega
          case rel => exact ⟨i + 1, by omega, rfl, by go_num, by rw [HNX.out]; exact HOW.out, HC2.out⟩
        | true =>
          have HNX := Lib.hid (brL_yes HBB.out)
          have HNEW : Hid (∀ j u, [Value.int .i64 (i : Int)][j]? = some u → (w2.alloc (Obj.cells #[.int .i64 (i : Int)] 3)).cell? ((⟨w2.heap.size, 0, none⟩ : Addr).add j) = some u) := Lib.hid (fun j u hu => by
            rw [add_plain, Nat.zero_add]
            exact (Blk.new w2 #[.int .i64 (i : Int)] 3).cell_some hu)
          obtain ⟨cn, hcn⟩ : ∃ cn, (brL N l i).length = cn := ⟨_, rfl⟩
          rw [hcn] at HOW hbl
          have HCN := Lib.hid hcn
          clear hcn
          go_wp2_with (at_builtin; refine wpList_append_two rfl (.tmp 38) (.tmp 40) 40 rfl w1.heap.size 3 i0 (.int .i64 0) 1 8 Try.underlying40 HI0.out HZ0.out HZ1.out HZ2.out rfl (by decide) _ cn ((brL N l i).map (Value.int .i64)) rfl (HOW.out.alloc _) ⟨w2.heap.size, 0, none⟩ 1 1 [.int .i64 (i : Int)] rfl rfl HNEW.out (by intro u hu; simp at hu; subst hu; rfl) (by simp [maxLen]; omega) (by omega) (by simp; omega) ?_; intro v1 w3 hown1 hgrow1 hv1; have HOWN1 := Lib.hid hown1; have HGROW1 := Lib.hid hgrow1; clear hown1 hgrow1 hv1)
          go_roundg (l.length - (i + 1))
          case measure => omega
          case rel =>
            refine ⟨i + 1, by omega, rfl, by go_num, ?_, (HC2.out.alloc _).trans (Chg.of_grownRow HGROW1.out) (fun kk hk => .inr ((HOW.out.lt kk hk.symm).1))⟩
            rw [HNX.out, List.length_append, List.map_append, HCN.out]
            exact HOWN1.out
      · obtain rfl : i = l.length := by omega
        obtain ⟨L, hL⟩ : ∃ L, brL N l l.length = L := ⟨_, rfl⟩
        have how := HOWN.out
        rw [hL] at how
        have HL3 := Lib.hid hL
        obtain ⟨ao, g, c', hv1, h1, h2, h3⟩ := owns_list how
        have HH1 := Lib.hid h1; have HH2 := Lib.hid h2
        subst hv1
        clear h1 h2 how HOWN hL hlt
        go_wp2_with fail
        go_ret2
        rw [H0.out, HL3.out]
        exact ⟨ao, c', g, rfl, HH1.out, HH2.out, HC.out.trans HCG.out (fun _ x => x.elim)⟩
end Go.Proofs.Ytmmpdfcnenljhaa
