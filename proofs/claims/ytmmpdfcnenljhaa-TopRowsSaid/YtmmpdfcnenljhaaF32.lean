/- What every right program knows of layers 1, 4 and 6; the gardens in which every post is connected with every other one. No condition. -/
import Derived.Test.YtmmpdfcnenljhaaF31
import Derived.Test.YtmmpdfcnenljhaaF26
import Derived.Test.YtmmpdfcnenljhaaT6
set_option linter.unusedVariables false
namespace Go.Proofs.Ytmmpdfcnenljhaa
open Go.RowKit

theorem tutteR_eq (N : Nat) (x y : Int) : ∀ (m : Nat) (l : List Fe), l.length = m → m ≤ 10 → tutte N l x y = tutteR N x y m l
  | 0, l, hl, _ => by
    obtain rfl : l = [] := List.length_eq_zero_iff.1 hl
    rw [tutte_nil, tutteR]
  | m + 1, [], hl, _ => by simp at hl
  | m + 1, f :: r, hl, hm => by
    simp only [List.length_cons, Nat.add_right_cancel_iff] at hl
    rw [tutte_cons N f r (by omega), tutteR, tutteR_eq N x y m r hl (by omega), tutteR_eq N x y m (r.map (closeFe f)) (by rw [List.length_map]; exact hl) (by omega)]
/-- The colourings by tutteR. -/
def colourR (N : Nat) (l : List Fe) (c : Int) : Int := c ^ (groupsV N l (allV l)).toNat * (-1) ^ (N - groupsV N l (allV l)).toNat * tutteR N (1 - c) 0 l.length l
theorem colourR_eq (N : Nat) (l : List Fe) (c : Int) (hl : l.length ≤ 10) : colourV N l c = colourR N l c := by
  unfold colourV colourR
  rw [tutteR_eq N _ _ l.length l rfl hl]
theorem full_fact : ∀ n : Nat, n < 6 → 1 ≤ n → wrap64 (colourR n (full n) n) = ([1, 1, 2, 6, 24, 120].getD n 0 : Int) ∧ (full n).length ≤ 10 ∧ gardenE n (full n) = 0 ∧ 0 ≤ groupsV n (full n) (allV (full n)) := by decide +kernel
theorem tri_rows : wrap64 (waysV 3 3 0 : Nat) = 6 := by decide +kernel
theorem two_plans : Turn.plansE 3 2 [⟨0, 1, 1, 2⟩] = (2, 0) := by decide +kernel

set_option maxRecDepth 100000 in
set_option maxHeartbeats 2000000 in
theorem fenced_any (w : World) : Calls Try.prog 9 #[] w fun e w' => e = .returned (.bool true) ∧ Chg (fun _ => False) w w' := by
  have HB0 := Lib.hid (Blk.new w #[Value.int .i64 0, Value.int .i64 1, Value.int .i64 1, Value.int .i64 2, Value.int .i64 2, Value.int .i64 0] 24)
  have HC0 := Lib.hid ((Chg.refl (fun _ => False) w).alloc (.cells #[Value.int .i64 0, Value.int .i64 1, Value.int .i64 1, Value.int .i64 2, Value.int .i64 2, Value.int .i64 0] 24))
  obtain ⟨g, hg⟩ : ∃ g, w.heap.size = g := ⟨_, rfl⟩
  rw [hg] at HB0
  go_enter Try.func9, Try.ntmps9
  go_wp2_with fail
  clear hg
  generalize w.alloc (.cells #[Value.int .i64 0, Value.int .i64 1, Value.int .i64 1, Value.int .i64 2, Value.int .i64 2, Value.int .i64 0] 24) = w1 at HB0 HC0 ⊢
  have h := Colourings_any 3 tri 3 (some ⟨g, 0, none⟩) 3 g 0 w1 (fences_of (fun j u hu => by rw [Nat.zero_add]; exact HB0.out.cell_some hu)) (.inr rfl) tri_garden (by decide) (by omega) (by omega) (by rw [tri_groups]; omega)
  rw [tri_colours] at h
  have HP := Lib.hid h
  clear h
  refine HP.out.mono ?_
  rintro e w2 ⟨rfl, hc2⟩
  have HC2 := Lib.hid (HC0.out.trans hc2 (fun _ x => x.elim))
  clear hc2 HC0 HP HB0
  have HR := Lib.hid (Rows_any 3 w2 (by omega) (by omega))
  rw [tri_rows] at HR
  go_wp2_with fail
  refine HR.out.mono ?_
  rintro e w3 ⟨rfl, hc3⟩
  have HC3 := Lib.hid (HC2.out.trans hc3 (fun _ x => x.elim))
  clear hc3 HC2 HR
  have HB4 := Lib.hid (Blk.new w3 #[Value.int .i64 0, Value.int .i64 1, Value.int .i64 1, Value.int .i64 2] 59)
  have HC4 := Lib.hid (HC3.out.alloc (.cells #[Value.int .i64 0, Value.int .i64 1, Value.int .i64 1, Value.int .i64 2] 59))
  obtain ⟨g3, hg3⟩ : ∃ g3, w3.heap.size = g3 := ⟨_, rfl⟩
  rw [hg3] at HB4
  go_wp2_with fail
  clear hg3
  generalize w3.alloc (.cells #[Value.int .i64 0, Value.int .i64 1, Value.int .i64 1, Value.int .i64 2] 59) = w4 at HB4 HC4 ⊢
  have hsp : Turn.SpansAt w4 g3 0 [⟨0, 1, 1, 2⟩] := fun k hk => by
    have : k = 0 := by simp at hk; exact hk
    subst this
    exact ⟨HB4.out.cell_some (i := 0) rfl, HB4.out.cell_some (i := 1) rfl, HB4.out.cell_some (i := 2) rfl, HB4.out.cell_some (i := 3) rfl⟩
  have h := Turn.Plans_any 3 2 [⟨0, 1, 1, 2⟩] (some ⟨g3, 0, none⟩) 1 w4 g3 0 hsp (.inr rfl)
  rw [two_plans] at h
  have HP := Lib.hid h
  clear h hsp
  refine HP.out.mono ?_
  rintro e w5 ⟨rfl, hc5⟩
  have HC5 := Lib.hid (HC4.out.trans hc5 (fun _ x => x.elim))
  clear hc5 HC4 HP HB4
  go_wp2_with fail
  go_ret
  exact ⟨rfl, HC5.out⟩
end Go.Proofs.Ytmmpdfcnenljhaa
