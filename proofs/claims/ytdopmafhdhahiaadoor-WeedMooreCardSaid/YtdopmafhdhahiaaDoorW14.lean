/- Trim at the cutset "01", of rows; the errors of a row. Their conditions are their premises. -/
import Derived.Test.YtdopmafhdhahiaaDoorW13
set_option linter.unusedVariables false
namespace Go.Proofs.YtdopmafhdhahiaaDoor
open Go.RowKit Go.Maps

theorem info74 : (Tryd.prog.info? 74).map (fun i => (i.zero, i.size)) = some (some (.agg (Array.replicate 256 (.bool false))), 256) := by kernel_rfl
theorem zero74 (w : World) : (zeroValue 74).run Tryd.prog w = .ok (.agg (Array.replicate 256 (.bool false))) w := (zero_of_info info74).1 w
theorem size74 : (Tryd.prog.info? 74).map (·.size) = some 256 := (zero_of_info info74).2

theorem trimL_any (p : Value) (w : World) : Calls Tryd.prog 40 #[.string (txt []), p] w fun e w' => e = .returned (.string (txt [])) ∧ w' = w := by
  have hsz : (txt []).size = 0 := txt_size []
  go_enter Tryd.func40, Tryd.ntmps40
  go_wp2_with fail
  go_loopg [0] 0 (fun gm sv wr => gm = 0 ∧ sv = .string (txt []) ∧ wr = w)
  case atStart => exact ⟨rfl, rfl, rfl⟩
  case round =>
    obtain ⟨rfl, rfl, rfl⟩ := hrel
    go_wp2_with fail
    go_ret
    exact ⟨rfl, rfl⟩

theorem txt_ne {l : List Nat} (h : l ≠ []) : (txt l).toList.isEmpty = false := by
  rw [Lib.toList_data]
  cases l with
  | nil => exact absurd rfl h
  | cons a l => simp [txt, bytes]

set_option maxRecDepth 100000 in
set_option maxHeartbeats 1000000 in
theorem trim_any (l : List Nat) (w : World) (hl : ∀ x ∈ l, x < 2) (hn : l.length ≤ 1000) (h0 : l ≠ []) :
    Calls Tryd.prog 34 #[.string (txt l), .string ⟨#[48, 49]⟩] w fun e w' => e = .returned (.string (txt [])) ∧ Chg (fun _ => False) w w' := by
  have hM := Tryd.strings_makeASCIISet zero74 ⟨#[48, 49]⟩ w (by decide) (by
    intro j b hj
    match j, hj with
    | 0, hj => simp at hj; subst hj; decide
    | 1, hj => simp at hj; subst hj; decide)
  obtain ⟨A, hA⟩ : ∃ A, Lib.setCells (⟨#[48, 49]⟩ : ByteArray).data.toList = A := ⟨_, rfl⟩
  have hA48 : A[48]? = some (.bool true) := by rw [← hA]; kernel_rfl
  have hA49 : A[49]? = some (.bool true) := by rw [← hA]; kernel_rfl
  have hsc : (storeCells ⟨w.heap.size + 1, 0, none⟩ A.toList 0).run Tryd.prog ((w.alloc (.cells A 74)).alloc (.cells (Array.replicate 256 (.bool false)) 74)) = .ok () ((w.alloc (.cells A 74)).alloc (.cells A 74)) := by
    have := run_storeCells_new (P := Tryd.prog) (w.alloc (.cells A 74)) 74 (Array.replicate 256 (.bool false)) A (by rw [← hA, Lib.setCells_size]; exact size74) (by rw [← hA, Lib.setCells_size, Array.size_replicate]) (by rw [← hA]; exact Lib.setCells_one _)
    simpa using this
  have hszA : A.size = 256 := by rw [← hA]; exact Lib.setCells_size _
  rw [hA] at hM
  have hne := txt_ne h0
  have hne2 : (⟨#[48, 49]⟩ : ByteArray).toList.isEmpty = false := by decide +kernel
  have HR : Hid (∀ w', ((w.alloc (.cells A 74)).alloc (.cells A 74)) = w' → Calls Tryd.prog 41 #[.string (txt l), .pointer (some ⟨w.heap.size + 1, 0, none⟩)] w' fun e w'' => e = .returned (.string (txt [])) ∧ w'' = w') := Lib.hid (fun w' hw' => by
    refine trimR_any _ l w' hl hn ?_ ?_
    · rw [← hw', World.cell?_alloc_at _ _ _ _ (by simp)]; exact hA48
    · rw [← hw', World.cell?_alloc_at _ _ _ _ (by simp)]; exact hA49)
  have HC := Lib.hid (((Chg.refl (fun _ => False) w).alloc (.cells A 74)).alloc (.cells A 74))
  have zz := zero74
  clear hA hA48 hA49 hl
  go_enter Tryd.func34, Tryd.ntmps34
  go_wp2_with (go_at_call 39; refine hM.mono ?_; rintro e w' ⟨rfl, hw⟩; rw [hw])
  refine (HR.out _ rfl).mono ?_
  rintro e w' ⟨rfl, rfl⟩
  go_wp2_with fail
  refine (trimL_any _ _).mono ?_
  rintro e w' ⟨rfl, rfl⟩
  go_wp2_with fail
  go_ret
  exact ⟨rfl, HC.out⟩

set_option maxRecDepth 100000 in
set_option maxHeartbeats 400000 in
/-- A row that is one: no error. -/
theorem row_any (u : Nat) (l : List Nat) (most : Nat) (w : World) (hu : u < 256) (hl : ∀ x ∈ l, x < 2) (hn : l.length ≤ most) (hm : most ≤ 1000) (h0 : l ≠ []) :
    Calls Tryd.prog 25 #[.int .i64 u, .string (txt l), .int .i64 most] w fun e w' => e = .returned (.int .i64 0) ∧ Chg (fun _ => False) w w' := by
  have hsz := txt_size l
  have hne := txt_ne h0
  have hne0 : (txt []).toList.isEmpty = true := by kernel_rfl
  have hd : decide (0 ≤ (u : Int) ∧ (u : Int) ≤ 255) = true := by simp; omega
  have dl : decide ((most : Int) < (l.length : Int)) = false := by simp; omega
  have HK := Lib.hid (fun w' => (known_any (u : Int) w'))
  simp only [hd] at HK
  have HT := Lib.hid (fun w' => trim_any l w' hl (by omega) h0)
  clear hl hd
  go_enter Tryd.func25, Tryd.ntmps25
  go_wp2_with fail
  refine (HK.out _).mono ?_
  rintro e w' ⟨rfl, rfl⟩
  go_wp2_with fail
  refine (HT.out _).mono ?_
  rintro e w2 ⟨rfl, hc⟩
  go_wp2_with fail
  go_ret
  exact ⟨rfl, hc⟩
end Go.Proofs.YtdopmafhdhahiaaDoor
