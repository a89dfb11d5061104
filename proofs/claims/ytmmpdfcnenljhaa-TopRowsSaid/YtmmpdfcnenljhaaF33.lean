/- The law TopRows, walked. Its conditions are its premises. -/
import Derived.Test.YtmmpdfcnenljhaaF32
set_option linter.unusedVariables false
namespace Go.Proofs.Ytmmpdfcnenljhaa
open Go.RowKit

theorem u8_of {n : Int} (h : (Lit.int .u8 n).wf = true) : 0 ≤ n ∧ n ≤ 255 := by
  simpa [Lit.wf, IntKind.min, IntKind.max, IntKind.signed, IntKind.bits] using h

theorem pairs_next {n a b : Nat} (h : a + 1 ≤ b) : pairsTo n a (b + 1) = pairsTo n a b ++ [⟨(a : Int), (b : Int)⟩] := by
  unfold pairsTo
  rw [List.append_assoc]
  congr 1
  rw [show b + 1 - (a + 1) = (b - (a + 1)) + 1 by omega, List.range_succ, List.map_append, List.map_singleton, show a + 1 + (b - (a + 1)) = b by omega]
theorem pairs_row (n a : Nat) : pairsTo n a n = pairsTo n (a + 1) (a + 2) := by
  unfold pairsTo
  rw [List.range_succ, List.flatMap_append, show a + 2 - (a + 1 + 1) = 0 by omega]
  simp
theorem pairs_low (n a : Nat) : pairsTo n a (a + 1) = pairsTo n a 0 := by
  unfold pairsTo
  rw [show a + 1 - (a + 1) = 0 by omega, show 0 - (a + 1) = 0 by omega]
theorem pairs_len : ∀ n, n < 6 → ∀ a, a < 6 → ∀ b, b < 6 → (pairsTo n a b).length ≤ 30 := by decide +kernel
theorem feCells_snoc (l : List Fe) (f : Fe) : (l ++ [f]).flatMap feCells = l.flatMap feCells ++ [.int .i64 f.a, .int .i64 f.b] := by
  rw [List.flatMap_append]; rfl

set_option maxRecDepth 100000 in
set_option maxHeartbeats 2000000 in
theorem law_rows (s : Int) (w : World) (hs : (Lit.int .u8 s).wf = true) : Calls Try.prog 3 #[.int .u8 s] w (Yes w) := by
  obtain ⟨s0, s1⟩ := u8_of hs
  obtain ⟨S, rfl⟩ := Int.eq_ofNat_of_zero_le s0
  clear hs
  obtain ⟨i0, hi0, hz0, hz1, hz2⟩ := info_parts info24
  have HI0 := Lib.hid hi0; have HZ0 := Lib.hid hz0; have HZ1 := Lib.hid hz1; have HZ2 := Lib.hid hz2
  clear hi0 hz0 hz1 hz2
  obtain ⟨n, hn⟩ : ∃ n : Nat, 1 + S % 5 = n := ⟨_, rfl⟩
  have hn1 : 1 ≤ n := by omega
  have hn6 : n < 6 := by omega
  have hsl : (1 : Int) + (S : Int) % 5 = (n : Int) := by omega
  have HSL := Lib.hid hsl
  have HF := Lib.hid (full_fact n hn6 hn1)
  have HWF := Lib.hid (ways_fact n hn6)
  clear hn hsl
  go_enter Try.func3, Try.ntmps3
  go_wp2_with fail
  rw [HSL.out]
  clear HSL s0 s1
  go_loopg [5, 4] n (fun gm av v wr => ∃ a : Nat, a ≤ n ∧ gm = n - a ∧ av = .int .i64 a ∧ wr.ownsRow w.heap.size 24 2 v (pairsTo n a 0).length ((pairsTo n a 0).flatMap feCells) ∧ Chg (fun _ => False) w wr)
  case atStart => exact ⟨0, by omega, by omega, rfl, World.ownsRow_nil _ _ _ _, Chg.refl _ w⟩
  case round =>
    obtain ⟨a, ha, rfl, rfl, hown, hcg⟩ := hrel
    have HOWN := Lib.hid hown; have HCG := Lib.hid hcg
    clear hown hcg
    by_cases hlt : a < n
    · have hd : decide (a < n) = true := decide_eq_true hlt
      go_wp2_with fail
      go_loopg [6, 4] (n - (a + 1)) (fun gm bv v wr => ∃ b : Nat, a + 1 ≤ b ∧ b ≤ n ∧ gm = n - b ∧ bv = .int .i64 b ∧ wr.ownsRow w.heap.size 24 2 v (pairsTo n a b).length ((pairsTo n a b).flatMap feCells) ∧ Chg (fun _ => False) w wr)
      case atStart => exact ⟨a + 1, Nat.le_refl _, by omega, rfl, by go_num, by rw [pairs_low]; exact HOWN.out, HCG.out⟩
      case round =>
        clear HOWN HCG
        obtain ⟨b, hb1, hb2, rfl, rfl, hown, hcg⟩ := hrel
        have hsz : w.heap.size ≤ wr.heap.size := hcg.size
        have HCG := Lib.hid hcg; have HOWN := Lib.hid hown
        by_cases hlb : b < n
        · have hd2 : decide (b < n) = true := decide_eq_true hlb
          have hpl := pairs_len n hn6 a (by omega) b (by omega)
          have HNX := Lib.hid (pairs_next (n := n) hb1)
          have HNEW : Hid (∀ j u, [Value.int .i64 (a : Int), Value.int .i64 (b : Int)][j]? = some u → (wr.alloc (Obj.cells #[.int .i64 (a : Int), .int .i64 (b : Int)] 24)).cell? ((⟨wr.heap.size, 0, none⟩ : Addr).add j) = some u) := Lib.hid (fun j u hu => by
            rw [add_plain, Nat.zero_add]
            exact (Blk.new wr #[.int .i64 (a : Int), .int .i64 (b : Int)] 24).cell_some hu)
          obtain ⟨L, hL⟩ : ∃ L, pairsTo n a b = L := ⟨_, rfl⟩
          rw [hL] at HNX hpl hown
          have HL := Lib.hid hL
          have HFL := Lib.hid (feCells_len L)
          obtain ⟨cn, hcn⟩ : ∃ cn, L.length = cn := ⟨_, rfl⟩
          rw [hcn] at hown hpl HFL
          have HCN := Lib.hid hcn
          have HOW := Lib.hid (hown.alloc (Obj.cells #[.int .i64 (a : Int), .int .i64 (b : Int)] 24))
          have HCA := Lib.hid (hcg.alloc (Obj.cells #[.int .i64 (a : Int), .int .i64 (b : Int)] 24))
          clear hL hcn hown hcg
          go_wp2_with (at_builtin; refine wpList_append_two rfl (.tmp 27) (.tmp 31) 22 rfl w.heap.size 24 i0 _ 2 16 Try.underlying22 HI0.out HZ0.out HZ1.out HZ2.out rfl (by decide) _ cn (L.flatMap feCells) rfl HOW.out ⟨wr.heap.size, 0, none⟩ 1 1 [.int .i64 (a : Int), .int .i64 (b : Int)] rfl rfl HNEW.out (by intro u hu; simp at hu; rcases hu with rfl | rfl <;> rfl) (by simp [maxLen]; omega) (by omega) (by simp; omega) ?_; intro v1 w3 hown1 hgrow1 hv1; have HOWN1 := Lib.hid hown1; have HGROW1 := Lib.hid hgrow1; clear hown1 hgrow1 hv1)
          go_roundg (n - (b + 1))
          case measure => omega
          case rel =>
            refine ⟨b + 1, by omega, by omega, rfl, by go_num, ?_, HCA.out.trans (Chg.of_grownRow HGROW1.out) (fun kk hk => .inr (HOW.out.lt kk hk.symm).1)⟩
            rw [HNX.out, List.length_append, feCells_snoc, HCN.out]
            exact HOWN1.out
        · have hbn : b = n := by omega
          subst hbn
          have hd2 : decide (b < b) = false := by simp
          clear hown hcg
          go_wp2_with fail
          go_roundg (b - (a + 1))
          case measure => omega
          case rel => exact ⟨a + 1, by omega, rfl, by go_num, by rw [← pairs_low, ← pairs_row]; exact HOWN.out, HCG.out⟩
    · have han : a = n := by omega
      subst han
      have hd : decide (a < a) = false := by simp
      obtain ⟨f1, f2, f3, f4⟩ := HF.out
      have hown := HOWN.out
      obtain ⟨ao, c, rfl, hform⟩ := owns_form hown
      have hex : ∃ g, ((full a) = [] ∨ ao = some ⟨g, 0, none⟩) ∧ FencesAt wr g 0 (full a) := by
        by_cases hnil : pairsTo a a 0 = []
        · exact ⟨0, .inl hnil, fun k hk => by unfold full at hk; rw [hnil] at hk; simp at hk⟩
        · obtain ⟨g, h1, _, _, h4⟩ := hform (List.length_pos_iff.2 hnil)
          exact ⟨g, .inr h1, fences_of fun j u hu => by rw [Nat.zero_add]; exact h4 j u hu⟩
      obtain ⟨g, hA, hS⟩ := hex
      have h := Colourings_any a (full a) a ao c g 0 wr hS hA f3 f2 (by omega) (by omega) f4
      rw [colourR_eq _ _ _ f2, f1] at h
      have HP := Lib.hid h
      have HR := Lib.hid (fun w => Rows_any a w hn1 (by omega))
      simp only [HWF.out] at HR
      obtain ⟨x, hx⟩ : ∃ x : Int, [1, 1, 2, 6, 24, 120].getD a 0 = x := ⟨_, rfl⟩
      rw [hx] at HP HR
      clear h hown hform hA hS f1 f2 f3 f4 HF HWF hx HOWN
      go_wp2_with fail
      refine HP.out.mono ?_
      rintro e w2 ⟨rfl, hc2⟩
      have HC2 := Lib.hid (HCG.out.trans hc2 (fun _ x => x.elim))
      clear hc2 HP
      go_wp2_with fail
      refine (HR.out w2).mono ?_
      rintro e w3 ⟨rfl, hc3⟩
      have HC3 := Lib.hid (HC2.out.trans hc3 (fun _ x => x.elim))
      clear hc3
      go_wp2_with fail
      refine (fenced_any w3).mono ?_
      rintro e w7 ⟨rfl, hc7⟩
      have HC7 := Lib.hid (HC3.out.trans hc7 (fun _ x => x.elim))
      clear hc7
      go_wp2_with fail
      go_ret
      exact ⟨rfl, HC7.out⟩
end Go.Proofs.Ytmmpdfcnenljhaa
