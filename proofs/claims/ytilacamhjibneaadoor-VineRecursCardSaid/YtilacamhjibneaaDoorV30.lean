/- alive, walked. No condition. -/
import Derived.Test.YtilacamhjibneaaDoorV29
set_option linter.unusedVariables false
namespace Go.Proofs.YtilacamhjibneaaDoor
open Go.RowKit

def bA : ByteArray := ⟨#[97]⟩
def bB : ByteArray := ⟨#[98]⟩
def bAB : ByteArray := ⟨#[97, 98]⟩
def bBA : ByteArray := ⟨#[98, 97]⟩
theorem str_A : str [0] = ⟨#[97]⟩ := by decide +kernel
theorem str_B : str [1] = ⟨#[98]⟩ := by decide +kernel
theorem str_AB : str [0, 1] = ⟨#[97, 98]⟩ := by decide +kernel
theorem str_BA : str [1, 0] = ⟨#[98, 97]⟩ := by decide +kernel
theorem str_fib : str [0, 1, 0, 0, 1] = ⟨#[97, 98, 97, 97, 98]⟩ := by decide +kernel
theorem vat_two (w : World) (p q : List Nat) : VAt (w.alloc (.cells #[.string (str p), .string (str q)] 9)) w.heap.size 0 [p, q] := fun k hk => by
  have h := Blk.new w #[.string (str p), .string (str q)] 9
  match k, hk with
  | 0, _ => exact h.cell_some (i := 0) rfl
  | 1, _ => exact h.cell_some (i := 1) rfl
theorem alive1 (w : World) : Calls Tryd.prog 30 #[.slice (some ⟨w.heap.size, 0, none⟩) 2 2, .string ⟨#[97]⟩, .int .i64 3] (w.alloc (.cells #[.string ⟨#[97, 98]⟩, .string ⟨#[97]⟩] 9)) fun e w' =>
    e = .returned (.tuple #[.string ⟨#[97, 98, 97, 97, 98]⟩, .int .i64 0]) ∧ Chg (fun _ => False) (w.alloc (.cells #[.string ⟨#[97, 98]⟩, .string ⟨#[97]⟩] 9)) w' := by
  have hv := vat_two w [0, 1] [0]
  have h := grow_any fib wf_fib [0] (by decide) (by decide) 3 (by decide) maps_fib fits_fib w.heap.size 0 2 _ hv
  rw [grow_fib, str_A, str_AB, str_fib] at h
  exact h
theorem alive2 (w : World) : Calls Tryd.prog 24 #[.slice (some ⟨w.heap.size, 0, none⟩) 2 2, .string ⟨#[97]⟩] (w.alloc (.cells #[.string ⟨#[97, 98]⟩, .string ⟨#[98]⟩] 9)) fun e w' =>
    e = .returned (.tuple #[.int .i64 2, .int .i64 1, .int .i64 0]) ∧ Chg (fun _ => False) (w.alloc (.cells #[.string ⟨#[97, 98]⟩, .string ⟨#[98]⟩] 9)) w' := by
  have hv := vat_two w [0, 1] [1]
  have h := kind_ok pow2 wf_pow2 [0] (by decide) (by decide) w.heap.size 0 2 _ hv
  rw [kind_pow2, str_A, str_AB, str_B] at h
  exact h
theorem alive3 (w : World) : Calls Tryd.prog 19 #[.slice (some ⟨w.heap.size, 0, none⟩) 2 2, .string ⟨#[97]⟩] (w.alloc (.cells #[.string ⟨#[97, 98]⟩, .string ⟨#[98]⟩] 9)) fun e w' =>
    (∃ g c, e = .returned (.tuple #[.slice (some ⟨g, 0, none⟩) 2 c, .int .i64 0]) ∧ IntsAt w' g 0 [2, -1]) ∧ Chg (fun _ => False) (w.alloc (.cells #[.string ⟨#[97, 98]⟩, .string ⟨#[98]⟩] 9)) w' := by
  have hv := vat_two w [0, 1] [1]
  have h := recurrence_ok pow2 wf_pow2 [0] (by decide) (by decide) w.heap.size 0 2 _ hv
  rw [rec_pow2, str_A, str_AB, str_B] at h
  exact h.mono fun e w' ⟨⟨g, c, h1, h2, _⟩, h3⟩ => ⟨⟨g, c, h1, h2⟩, h3⟩
theorem alive4 (w : World) : Calls Tryd.prog 17 #[.slice (some ⟨w.heap.size, 0, none⟩) 2 2, .string ⟨#[97]⟩, .int .i64 3] (w.alloc (.cells #[.string ⟨#[97, 98]⟩, .string ⟨#[98, 97]⟩] 9)) fun e w' =>
    e = .returned (.tuple #[.int .i64 6, .int .i64 0]) ∧ Chg (fun _ => False) (w.alloc (.cells #[.string ⟨#[97, 98]⟩, .string ⟨#[98, 97]⟩] 9)) w' := by
  have hv := vat_two w [0, 1] [1, 0]
  have h := factors_ok thue wf_thue 0 (by decide) bud_thue (fed_thue _) 3 (by decide) (by decide) w.heap.size 0 2 _ hv
  rw [str_A, str_AB, str_BA] at h
  exact h.mono fun e w' ⟨⟨K, h1, h2⟩, h3⟩ => ⟨by rw [h1, fac_thue K h2]; rfl, h3⟩

set_option maxRecDepth 100000 in
set_option maxHeartbeats 1000000 in
theorem alive_any (w : World) : Calls Tryd.prog 16 #[] w fun e w' => e = .returned (.bool true) ∧ Chg (fun _ => False) w w' := by
  have HC1 := Lib.hid ((Chg.refl (fun _ => False) w).alloc (.cells #[.string ⟨#[97, 98]⟩, .string ⟨#[97]⟩] 9))
  go_enter Tryd.func16, Tryd.ntmps16
  go_wp2_with fail
  refine (alive1 w).mono ?_
  rintro e w1 ⟨rfl, hc1⟩
  have HD1 := Lib.hid (HC1.out.trans hc1 (fun _ x => x.elim))
  have HC2 := Lib.hid ((Chg.refl (fun _ => False) w1).alloc (.cells #[.string ⟨#[97, 98]⟩, .string ⟨#[98]⟩] 9))
  clear hc1
  go_wp2_with fail
  refine (alive2 w1).mono ?_
  rintro e w2 ⟨rfl, hc2⟩
  have HD2 := Lib.hid ((HD1.out.trans HC2.out (fun _ x => x.elim)).trans hc2 (fun _ x => x.elim))
  have HC3 := Lib.hid ((Chg.refl (fun _ => False) w2).alloc (.cells #[.string ⟨#[97, 98]⟩, .string ⟨#[98]⟩] 9))
  clear hc2
  go_wp2_with fail
  refine (alive3 w2).mono ?_
  rintro e w3 ⟨⟨g, c, rfl, hI⟩, hc3⟩
  have HD3 := Lib.hid ((HD2.out.trans HC3.out (fun _ x => x.elim)).trans hc3 (fun _ x => x.elim))
  have HC4 := Lib.hid ((Chg.refl (fun _ => False) w3).alloc (.cells #[.string ⟨#[97, 98]⟩, .string ⟨#[98, 97]⟩] 9))
  have HI := Lib.hid hI
  clear hc3 hI
  go_wp2_with fail
  refine (alive4 w3).mono ?_
  rintro e w4 ⟨rfl, hc4⟩
  have HD4 := Lib.hid ((HD3.out.trans HC4.out (fun _ x => x.elim)).trans hc4 (fun _ x => x.elim))
  have HI4 : Hid (IntsAt (w4.alloc (.cells #[.int .i64 2, .int .i64 (-1)] 3)) g 0 [2, -1]) := Lib.hid (fun k hk => ((Chg.refl (fun _ => False) w4).alloc _).cell_some (hc4.cell_some (HC4.out.cell_some (HI.out k hk) (fun x => x)) (fun x => x)) (fun x => x))
  have HJ4 : Hid (IntsAt (w4.alloc (.cells #[.int .i64 2, .int .i64 (-1)] 3)) w4.heap.size 0 [2, -1]) := Lib.hid (fun k hk => by
    have h := Blk.new w4 #[.int .i64 2, .int .i64 (-1)] 3
    match k, hk with
    | 0, _ => exact h.cell_some (i := 0) rfl
    | 1, _ => exact h.cell_some (i := 1) rfl)
  have HD5 := Lib.hid (HD4.out.alloc (.cells #[.int .i64 2, .int .i64 (-1)] 3))
  have HSM := Lib.hid (same_any [2, -1] [2, -1] (.slice (some ⟨g, 0, none⟩) 2 c) (.slice (some ⟨w4.heap.size, 0, none⟩) 2 2) _ ⟨_, g, 0, c, rfl, .inr rfl, HI4.out⟩ ⟨_, w4.heap.size, 0, 2, rfl, .inr rfl, HJ4.out⟩ (by decide) (by decide))
  clear hc4
  go_wp2_with fail
  refine HSM.out.mono ?_
  rintro e w5 ⟨rfl, q, rfl⟩
  go_wp2_with fail
  go_ret
  exact ⟨rfl, HD5.out.drewN q⟩
end Go.Proofs.YtilacamhjibneaaDoor
