/- Grow of a row; what every right program knows of a few rules. Their conditions are their premises. -/
import Derived.Test.YtdopmafhdhahiaaDoorW16
set_option linter.unusedVariables false
namespace Go.Proofs.YtdopmafhdhahiaaDoor
open Go.RowKit Go.Maps

theorem grownV_len (u : Nat) (l : List Nat) : (grownV u l).length = l.length - 2 := grownK_len _ _ _
theorem grownV_lt (u : Nat) (l : List Nat) : ∀ x ∈ grownV u l, x < 2 := by
  intro x hx
  obtain ⟨j, _, rfl⟩ := List.mem_map.1 hx
  exact bit_lt _ _

set_option maxRecDepth 100000 in
set_option maxHeartbeats 1000000 in
theorem grow_any (u : Nat) (l : List Nat) (w : World) (hu : u < 256) (hl : ∀ x ∈ l, x < 2) (h3 : 3 ≤ l.length) (hn : l.length ≤ 400) :
    Calls Tryd.prog 21 #[.int .i64 u, .string (txt l)] w fun e w' => e = .returned (.tuple #[.string (txt (grownV u l)), .int .i64 0]) ∧ Chg (fun _ => False) w w' := by
  have hsz := txt_size l
  have HROW := Lib.hid (fun w' => row_any u l 400 w' hu hl hn (by omega) (by intro h; subst h; simp at h3))
  have HPL := Lib.hid (fun w' => plots_any l w' hl (by omega))
  have HGR := Lib.hid (fun b off c w' => grown_any u l b off c w' hu hl (by omega) h3)
  have dl : decide ((l.length : Int) < 3) = false := by simp; omega
  have HNE := Lib.hid (show l ≠ [] by intro h; subst h; simp at h3)
  have HN := Lib.hid hn
  clear hl
  go_enter Tryd.func21, Tryd.ntmps21
  go_wp2_with fail
  refine (HROW.out _).mono ?_
  rintro e w1 ⟨rfl, hc1⟩
  have HC1 := Lib.hid hc1
  clear hc1
  go_wp2_with fail
  refine (HPL.out _).mono ?_
  rintro e w2 ⟨v, rfl, ho2, hc2⟩
  obtain ⟨a, g, c, rfl, hag, hat, hg⟩ := owns_nats ho2
  have hag' := hag.resolve_left HNE.out
  subst hag'
  have HC2 := Lib.hid (HC1.out.trans hc2 (fun _ x => x.elim)); have HAT := Lib.hid hat
  clear hag hat ho2 hc2 hg
  go_wp2_with fail
  refine (HGR.out g 0 c _ HAT.out).mono ?_
  rintro e w3 ⟨v, rfl, ho3, hc3⟩
  rw [← grownV_len u l] at ho3
  obtain ⟨a, g3, c3, rfl, hag, hat, hg⟩ := owns_nats ho3
  have HC3 := Lib.hid (HC2.out.trans hc3 (fun _ x => x.elim)); have HAT3 := Lib.hid hat; have HAG := Lib.hid hag
  clear hag hat ho3 hc3 hg
  go_wp2_with fail
  refine (written_any (grownV u l) a c3 g3 0 _ HAT3.out (grownV_lt u l) (by rw [grownV_len]; omega) HAG.out).mono ?_
  rintro e w4 ⟨rfl, hc4⟩
  have HC4 := Lib.hid (HC3.out.trans hc4 (fun _ x => x.elim))
  clear hc4
  go_wp2_with fail
  go_ret2
  exact ⟨rfl, HC4.out⟩

theorem grow_alive (w : World) : Calls Tryd.prog 21 #[.int .i64 90, .string ⟨#[48, 48, 49, 48, 48]⟩] w fun e w' => e = .returned (.tuple #[.string ⟨#[49, 48, 49]⟩, .int .i64 0]) ∧ Chg (fun _ => False) w w' := by
  have h := grow_any 90 [0, 0, 1, 0, 0] w (by omega) (by decide) (by decide) (by decide)
  rw [show txt (grownV 90 [0, 0, 1, 0, 0]) = ⟨#[49, 48, 49]⟩ by kernel_rfl, show txt [0, 0, 1, 0, 0] = ⟨#[48, 48, 49, 48, 48]⟩ by kernel_rfl] at h
  exact h
theorem eden_alive (w : World) : Calls Tryd.prog 6 #[.int .i64 110, .int .i64 20] w fun e w' => e = .returned (.tuple #[.string ⟨#[48, 49, 48, 49, 48]⟩, .int .i64 0]) ∧ Chg (fun _ => False) w w' := by
  have h := eden_any 110 20 w
  rw [show edenV 110 20 = .tuple #[.string ⟨#[48, 49, 48, 49, 48]⟩, .int .i64 0] by kernel_rfl] at h
  exact h
theorem onto_alive (w : World) : Calls Tryd.prog 8 #[.int .i64 30] w fun e w' => e = .returned (.tuple #[.bool true, .int .i64 0]) ∧ Chg (fun _ => False) w w' := by
  have h := onto_any 30 w
  rw [show ontoV 30 = .tuple #[.bool true, .int .i64 0] by kernel_rfl] at h
  exact h
theorem mirror_alive (w : World) (hk : Kinds w) : Calls Tryd.prog 11 #[.int .i64 110] w fun e w' => e = .returned (.tuple #[.int .i64 124, .int .i64 137, .int .i64 0]) ∧ Chg (fun _ => False) w w' := by
  have h := mirror_any 110 w hk
  rw [show mirV 110 = .tuple #[.int .i64 124, .int .i64 137, .int .i64 0] by kernel_rfl] at h
  exact h

set_option maxRecDepth 100000 in
set_option maxHeartbeats 1000000 in
theorem alive_any (w : World) (hk : Kinds w) : Calls Tryd.prog 10 #[] w fun e w' => e = .returned (.bool true) ∧ Chg (fun _ => False) w w' := by
  have HK := Lib.hid hk
  clear hk
  go_enter Tryd.func10, Tryd.ntmps10
  go_wp2_with fail
  refine (grow_alive _).mono ?_
  rintro e w1 ⟨rfl, hc⟩
  have HC1 := Lib.hid hc
  clear hc
  go_wp2_with fail
  refine (eden_alive _).mono ?_
  rintro e w2 ⟨rfl, hc⟩
  have HC2 := Lib.hid (HC1.out.trans hc (fun _ x => x.elim))
  clear hc
  go_wp2_with fail
  refine (onto_alive _).mono ?_
  rintro e w3 ⟨rfl, hc⟩
  have HC3 := Lib.hid (HC2.out.trans hc (fun _ x => x.elim))
  clear hc
  go_wp2_with fail
  refine (mirror_alive _ (HK.out.chg HC3.out)).mono ?_
  rintro e w4 ⟨rfl, hc⟩
  have HC4 := Lib.hid (HC3.out.trans hc (fun _ x => x.elim))
  clear hc
  go_wp2_with fail
  go_ret
  exact ⟨rfl, HC4.out⟩
end Go.Proofs.YtdopmafhdhahiaaDoor
