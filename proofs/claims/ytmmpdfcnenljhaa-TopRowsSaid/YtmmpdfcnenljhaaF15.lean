/- The laws' comparison of lists of lists, and Polynomial of a garden of at most ten fences, walked. Their conditions are their premises. -/
import Derived.Test.YtmmpdfcnenljhaaF14
set_option linter.unusedVariables false
namespace Go.Proofs.Ytmmpdfcnenljhaa
open Go.RowKit

/-- A list at an address. -/
def ListV (w : World) (x : Value) (r : List Int) : Prop := ∃ ao c, x = .slice ao r.length c ∧ (r = [] ∨ ∃ g, ao = some ⟨g, 0, none⟩ ∧ IntsAt w g 0 r)
/-- Lists in a row. -/
def ListsV (w : World) (v : Value) (rows : List (List Int)) : Prop :=
  ∃ ao c, v = .slice ao rows.length c ∧ (rows = [] ∨ ∃ g, ao = some ⟨g, 0, none⟩ ∧ ∀ i (h : i < rows.length), ∃ x, w.cell? ⟨g, i, none⟩ = some x ∧ ListV w x rows[i])
theorem ListV.chg {w w' : World} {x : Value} {r : List Int} (h : ListV w x r) (hc : Chg (fun _ => False) w w') : ListV w' x r := by
  obtain ⟨ao, c, h1, h2⟩ := h
  exact ⟨ao, c, h1, h2.imp id fun ⟨g, h3, h4⟩ => ⟨g, h3, h4.chg hc (fun x => x)⟩⟩
theorem ListsV.chg {w w' : World} {v : Value} {rows : List (List Int)} (h : ListsV w v rows) (hc : Chg (fun _ => False) w w') : ListsV w' v rows := by
  obtain ⟨ao, c, h1, h2⟩ := h
  exact ⟨ao, c, h1, h2.imp id fun ⟨g, h3, h4⟩ => ⟨g, h3, fun i hi => by obtain ⟨x, hx, hl⟩ := h4 i hi; exact ⟨x, hc.cell_some hx (fun x => x), hl.chg hc⟩⟩⟩
theorem RowsAt.lists {w : World} {base : Nat} {v : Value} {rows : List (List Int)} (h : RowsAt w base v rows) : ListsV w v rows := by
  obtain ⟨xs, h1, h2⟩ := h
  obtain ⟨ao, c, rfl, hf⟩ := owns_form h1
  refine ⟨ao, c, rfl, ?_⟩
  by_cases hr : rows = []
  · exact .inl hr
  · obtain ⟨g, rfl, _, _, hc⟩ := hf (List.length_pos_iff.2 hr)
    refine .inr ⟨g, rfl, fun i hi => ?_⟩
    obtain ⟨x, hx, ao', c', rfl, hv⟩ := h2 i hi
    exact ⟨_, hc i _ hx, ao', c', rfl, hv.imp id fun ⟨g', e1, _, _, _, e2⟩ => ⟨g', e1, e2⟩⟩

theorem same_lists (x y : Value) (r s : List Int) (w : World) (h1 : ListV w x r) (h2 : ListV w y s) (l1 : r.length ≤ 1000) (l2 : s.length ≤ 1000) :
    Calls Try.prog 18 #[x, y] w fun e w' => e = .returned (.bool (decide (r = s))) ∧ ∃ z, w' = w.grow z := by
  obtain ⟨a1, c1, rfl, k1⟩ := h1
  obtain ⟨a2, c2, rfl, k2⟩ := h2
  rcases k1 with rfl | ⟨g1, rfl, i1⟩
  · rcases k2 with rfl | ⟨g2, rfl, i2⟩
    · exact same_any [] [] a1 a2 0 0 0 0 c1 c2 w (fun k h => by simp at h) (fun k h => by simp at h) (.inl rfl) (.inl rfl) (by simp) (by simp)
    · exact same_any [] s a1 _ 0 0 g2 0 c1 c2 w (fun k h => by simp at h) i2 (.inl rfl) (.inr rfl) (by simp) l2
  · rcases k2 with rfl | ⟨g2, rfl, i2⟩
    · exact same_any r [] _ a2 g1 0 0 0 c1 c2 w i1 (fun k h => by simp at h) (.inr rfl) (.inl rfl) l1 (by simp)
    · exact same_any r s _ _ g1 0 g2 0 c1 c2 w i1 i2 (.inr rfl) (.inr rfl) l1 l2

set_option maxRecDepth 100000 in
set_option maxHeartbeats 1000000 in
theorem lists_same (A B : List (List Int)) (va vb : Value) (w : World) (hA : ListsV w va A) (hB : ListsV w vb B) (lA : A.length ≤ 1000) (lB : B.length ≤ 1000)
    (kA : ∀ r ∈ A, r.length ≤ 1000) (kB : ∀ r ∈ B, r.length ≤ 1000) :
    Calls Try.prog 33 #[va, vb] w fun e w' => e = .returned (.bool (decide (A = B))) ∧ Chg (fun _ => False) w w' := by
  obtain ⟨a1, c1, rfl, k1⟩ := hA
  obtain ⟨a2, c2, rfl, k2⟩ := hB
  by_cases hl : A.length = B.length
  · have HL := Lib.hid hl
    have hq : ((A.length : Int) != B.length) = false := by rw [bne_eq_false_iff_eq]; omega
    have hq2 : (A.length != B.length) = false := by simpa using hl
    have HK1 := Lib.hid k1; have HK2 := Lib.hid k2; have HKA := Lib.hid kA; have HKB := Lib.hid kB
    clear k1 k2 hl kA kB
    go_enter Try.func33, Try.ntmps33
    go_wp2_with fail
    go_loopg [5] A.length (fun gm iv wr => ∃ i : Nat, i ≤ A.length ∧ gm = A.length - i ∧ iv = .int .i64 i ∧ (∀ j (h : j < A.length) (h2 : j < B.length), j < i → A[j] = B[j]) ∧ ∃ z, wr = w.grow z)
    case atStart => exact ⟨0, by omega, by omega, rfl, fun j h _ hj => by omega, w.grow_refl⟩
    case round =>
      obtain ⟨i, hi, rfl, rfl, hall, z, rfl⟩ := hrel
      have HALL := Lib.hid hall
      clear hall
      by_cases hlt : i < A.length
      · have hlt2 : i < B.length := by have := HL.out; omega
        obtain ⟨g1, rfl, i1⟩ := HK1.out.resolve_left (by rintro rfl; simp at hlt)
        obtain ⟨g2, rfl, i2⟩ := HK2.out.resolve_left (by rintro rfl; simp at hlt2)
        obtain ⟨x, hx, hlx⟩ := i1 i hlt
        obtain ⟨y, hy, hly⟩ := i2 i hlt2
        have cx := World.grow_cell ((grow_chg w z).cell_some hx (fun x => x))
        have cy := World.grow_cell ((grow_chg w z).cell_some hy (fun x => x))
        obtain ⟨r, hr⟩ : ∃ r, A[i] = r := ⟨_, rfl⟩
        obtain ⟨s, hs⟩ : ∃ s, B[i] = s := ⟨_, rfl⟩
        have HR := Lib.hid hr; have HS := Lib.hid hs
        rw [hr] at hlx
        rw [hs] at hly
        obtain ⟨bb, hbb⟩ : ∃ bb, decide (r = s) = bb := ⟨_, rfl⟩
        have HBB := Lib.hid hbb
        have HSAME : Hid (∀ z', Calls Try.prog 18 #[x, y] ((w.grow z).grow z') fun e w' => e = .returned (.bool bb) ∧ ∃ y, w' = (w.grow z).grow y) := Lib.hid (fun z' => by
          rw [← hbb]
          exact Calls.grow_of (same_lists x y r s _ ((hlx.chg (grow_chg w z)).chg (grow_chg _ _)) ((hly.chg (grow_chg w z)).chg (grow_chg _ _))
            (HKA.out r (by rw [← hr]; exact List.getElem_mem hlt)) (HKB.out s (by rw [← hs]; exact List.getElem_mem hlt2))))
        clear hx hy hlx hly i1 i2 hr hs hbb
        go_wp2_with fail
        refine wp_region_grow_lit (by kernel_rfl) (by kernel_rfl) ?_
        repeat (go_big_quiet_step ((go_at_call 18; exact HSAME.out _)))
        refine wpQuiet_nil ?_
        intro _ hw'
        obtain ⟨nq, hw''⟩ := hw'
        subst hw''
        cases bb with
        | true =>
          go_wp2_with fail
          go_roundg (A.length - (i + 1))
          case measure => omega
          case rel => exact ⟨i + 1, by omega, rfl, by go_num, fun j h h2 hj => by
            rcases Nat.lt_succ_iff_lt_or_eq.1 hj with h' | rfl
            · exact HALL.out j h h2 h'
            · rw [HR.out, HS.out]; exact of_decide_eq_true HBB.out, World.grow_grow _ _ _⟩
        | false =>
          go_wp2_with fail
          go_ret
          refine ⟨ret_bool (Eq.symm (decide_eq_false_iff_not.2 fun e => of_decide_eq_false HBB.out ?_)), (grow_chg w z).trans (grow_chg _ _) (fun _ x => x.elim)⟩
          rw [← HR.out, ← HS.out]
          simp [e]
      · go_wp2_with fail
        go_ret
        refine ⟨ret_bool (Eq.symm (decide_eq_true_iff.2 ?_)), grow_chg w z⟩
        exact List.ext_getElem HL.out fun j h1 h2 => HALL.out j h1 h2 (by omega)
  · have hq : ((A.length : Int) != B.length) = true := by rw [bne_iff_ne]; omega
    have hq2 : (A.length != B.length) = true := by simpa using hl
    have HL := Lib.hid hl
    clear hl k1 k2
    go_enter Try.func33, Try.ntmps33
    go_wp2_with fail
    go_ret
    exact ⟨ret_bool (Eq.symm (decide_eq_false_iff_not.2 fun e => HL.out (by rw [e]))), Chg.refl _ _⟩

set_option maxRecDepth 100000 in
set_option maxHeartbeats 1000000 in
theorem Polynomial_any (N : Nat) (l : List Fe) (a : Option Addr) (cap b off : Nat) (w : World) (hs : FencesAt w b off l) (ha : l = [] ∨ a = some ⟨b, off, none⟩)
    (h0 : gardenE N l = 0) (hl : l.length ≤ 10) :
    Calls Try.prog 31 #[.int .i64 N, .slice a l.length cap] w fun e w' => ∃ v, e = .returned (.tuple #[v, .int .i64 0]) ∧ ListsV w' v (outTo (polyV N l.length l) 15) ∧ Chg (fun _ => False) w w' := by
  have HS := Lib.hid hs; have HA := Lib.hid ha; have HL := Lib.hid hl; have H0 := Lib.hid h0
  have HV := Lib.hid (valid_of h0)
  clear hs ha hl h0
  go_enter Try.func31, Try.ntmps31
  go_wp2_with fail
  refine (of_any N l a cap b off w HS.out HA.out).mono ?_
  rintro e w1 ⟨hc1, ⟨h0, rfl⟩ | ⟨h0, p, rfl, hp⟩⟩
  · exact absurd H0.out h0
  · have HC := Lib.hid hc1
    have HG : Hid (GF w1 p N l) := Lib.hid ⟨a, cap, b, off, HA.out, HS.out.chg hc1 (fun x => x), hp⟩
    clear h0 hc1 hp
    go_wp2_with fail
    refine (polynomial_any N l.length l p w1 rfl HL.out HV.out HG.out).mono ?_
    rintro e w4 ⟨p4, rfl, hp4, hc4⟩
    have HP4 := Lib.hid hp4; have HC4 := Lib.hid (HC.out.trans hc4 (fun _ x => x.elim))
    clear hp4 hc4
    go_wp2_with fail
    refine (lists_any _ p4 w4 HP4.out).mono ?_
    rintro e w5 ⟨v, rfl, hv, hc5⟩
    have HV5 := Lib.hid hv.lists; have HC5 := Lib.hid (HC4.out.trans hc5 (fun _ x => x.elim))
    clear hv hc5
    go_wp2_with fail
    go_ret2
    exact ⟨v, rfl, HV5.out, HC5.out⟩
end Go.Proofs.Ytmmpdfcnenljhaa
