/- The law WeedMoore, walked. Its condition: the table of kinds reads as listed. -/
import Derived.Test.YtdopmafhdhahiaaDoorW29
set_option linter.unusedVariables false
namespace Go.Proofs.YtdopmafhdhahiaaDoor
open Go.RowKit Go.Maps

def mooreB (u : Nat) : Bool :=
  match orphV u (some 20) with
  | none => (orphV u none).isNone
  | some l => (orphV u none).isSome && splitsV u && !backB u l && decide (1 ≤ l.length) && decide (l.length ≤ 20) && l.all (fun x => decide (x < 2)) &&
    (decide (l.length ≤ 1) || (backB u (l.drop 1) && backB u l.dropLast && (orphV u (some (l.length - 1))).isNone))
theorem moore_all : allB 256 mooreB = true := by decide +kernel
theorem moore_none {u : Nat} (hu : u < 256) (h : orphV u (some 20) = none) : (orphV u none).isNone = true := by
  have := allB_at moore_all hu
  unfold mooreB at this
  rw [h] at this
  exact this
structure Moore (u : Nat) (l : List Nat) : Prop where
  on : (orphV u none).isNone = false
  one : splitsV u = true
  back : backB u l = false
  pos : 1 ≤ l.length
  le : l.length ≤ 20
  bits : ∀ x ∈ l, x < 2
  rest : 2 ≤ l.length → backB u (l.drop 1) = true ∧ backB u l.dropLast = true ∧ orphV u (some (l.length - 1)) = none
theorem moore_some {u : Nat} (hu : u < 256) {l : List Nat} (h : orphV u (some 20) = some l) : Moore u l := by
  have := allB_at moore_all hu
  unfold mooreB at this
  rw [h] at this
  simp only [Bool.and_eq_true, decide_eq_true_eq, List.all_eq_true, Bool.or_eq_true, Bool.not_eq_true'] at this
  obtain ⟨⟨⟨⟨⟨⟨h1, h2⟩, h3⟩, h4⟩, h5⟩, h6⟩, h7⟩ := this
  refine ⟨?_, h2, h3, h4, h5, h6, fun hl => ?_⟩
  · cases ho : orphV u none with
    | none => rw [ho] at h1; cases h1
    | some _ => rfl
  · rcases h7 with h7 | ⟨⟨h7, h8⟩, h9⟩
    · omega
    · refine ⟨h7, h8, ?_⟩
      cases ho : orphV u (some (l.length - 1)) with
      | none => rfl
      | some _ => rw [ho] at h9; cases h9

theorem slice_tail {l : List Nat} (h : 1 ≤ l.length) (hn : l.length ≤ 1000) (w : World) : (Instr.slice 9 (.string (txt l)) (some (.int .i64 1)) none none).run Tryd.prog w = .ok (.string (txt (l.drop 1))) w := by
  have hsz := txt_size l
  have he : (txt l).extract 1 (txt l).size = txt (l.drop 1) := by
    rw [hsz]
    apply ByteArray.ext
    simp [txt, bytes]
    exact List.take_of_length_le (by simp)
  simp [Instr.slice, run_underlying Tryd.underlying9, Instr.sliceBounds, hsz]
  rw [run_sliceBound w .i64 _ _ _ (by omega) (by omega)]
  rw [hsz] at he
  simp [Result.andThen, he]
theorem slice_butlast {l : List Nat} (h : 1 ≤ l.length) (hn : l.length ≤ 1000) (w : World) : (Instr.slice 9 (.string (txt l)) none (some (.int .i64 ((l.length : Int) - 1))) none).run Tryd.prog w = .ok (.string (txt l.dropLast)) w := by
  rcases snoc_or l with rfl | ⟨m, x, rfl⟩
  · simp at h
  · have := slice_init m x w
    rw [List.dropLast_concat, show (((m ++ [x]).length : Nat) : Int) - 1 = (m.length : Int) by simp]
    exact this

theorem edenV_none {u m : Nat} (hu : u < 256) (h1 : 1 ≤ m) (h2 : m ≤ 20) (h : orphV u (some m) = none) : edenV u m = .tuple #[.string ⟨#[]⟩, .int .i64 10] := by
  unfold edenV
  rw [if_pos (by omega), Int.toNat_natCast, Int.toNat_natCast, h]
theorem edenV_some {u m : Nat} (hu : u < 256) (h1 : 1 ≤ m) (h2 : m ≤ 20) {l : List Nat} (h : orphV u (some m) = some l) : edenV u m = .tuple #[.string (txt l), .int .i64 0] := by
  unfold edenV
  rw [if_pos (by omega), Int.toNat_natCast, Int.toNat_natCast, h]
theorem ontoV_nat {u : Nat} (hu : u < 256) : ontoV u = .tuple #[.bool (orphV u none).isNone, .int .i64 0] := by
  unfold ontoV
  rw [if_pos (by omega), Int.toNat_natCast]

set_option maxRecDepth 100000 in
set_option maxHeartbeats 1000000 in
theorem moore_law (u : Nat) (hu : u < 256) (w : World) (hk : Kinds w) : Calls Tryd.prog 5 #[.int .u8 (u : Int)] w fun e w' => e = .returned (.bool true) ∧ Chg (fun _ => False) w w' := by
  have HK := Lib.hid hk
  have HON := Lib.hid (fun w' => onto_any (u : Int) w')
  have HONE := Lib.hid (fun w' => one_any u hu w')
  have HED := Lib.hid (fun w' => eden_any (u : Int) 20 w')
  rw [ontoV_nat hu] at HON
  clear hk
  cases ho : orphV u (some 20) with
  | none =>
    rw [moore_none hu ho] at HON
    rw [show (20 : Int) = ((20 : Nat) : Int) from rfl, edenV_none hu (by omega) (by omega) ho] at HED
    obtain ⟨sv, hsv⟩ : ∃ sv, splitsV u = sv := ⟨_, rfl⟩
    rw [hsv] at HONE
    clear ho hsv
    go_enter Tryd.func5, Tryd.ntmps5
    go_wp2_with fail
    refine (HON.out _).mono ?_
    rintro e w1 ⟨rfl, hc⟩
    have HC1 := Lib.hid hc
    clear hc
    go_wp2_with fail
    refine (HONE.out _).mono ?_
    rintro e w2 ⟨rfl, hc⟩
    have HC2 := Lib.hid (HC1.out.trans hc (fun _ x => x.elim))
    clear hc
    go_wp2_with fail
    refine (HED.out _).mono ?_
    rintro e w3 ⟨rfl, hc⟩
    have HC3 := Lib.hid (HC2.out.trans hc (fun _ x => x.elim))
    clear hc
    cases sv
    all_goals
      go_wp2_with fail
      refine (alive_any _ (HK.out.chg HC3.out)).mono ?_
      rintro e w5 ⟨rfl, hc⟩
      have HC5 := Lib.hid (HC3.out.trans hc (fun _ x => x.elim))
      clear hc
      go_wp2_with fail
      go_ret
      exact ⟨rfl, HC5.out⟩
  | some l =>
    have HM := Lib.hid (moore_some hu ho)
    rw [HM.out.on] at HON
    rw [HM.out.one] at HONE
    rw [show (20 : Int) = ((20 : Nat) : Int) from rfl, edenV_some hu (by omega) (by omega) ho] at HED
    have hpos := HM.out.pos
    have hle := HM.out.le
    have hsz := txt_size l
    have hne : l ≠ [] := by intro h; subst h; simp at hpos
    have HBK := Lib.hid (fun w' => back_any u l hu HM.out.bits hne (by omega) w')
    clear ho hne
    go_enter Tryd.func5, Tryd.ntmps5
    go_wp2_with fail
    refine (HON.out _).mono ?_
    rintro e w1 ⟨rfl, hc⟩
    have HC1 := Lib.hid hc
    clear hc
    go_wp2_with fail
    refine (HONE.out _).mono ?_
    rintro e w2 ⟨rfl, hc⟩
    have HC2 := Lib.hid (HC1.out.trans hc (fun _ x => x.elim))
    clear hc
    go_wp2_with fail
    refine (HED.out _).mono ?_
    rintro e w3 ⟨rfl, hc⟩
    have HC3 := Lib.hid (HC2.out.trans hc (fun _ x => x.elim))
    clear hc
    go_wp2_with fail
    refine (HBK.out _).mono ?_
    rintro e w4 ⟨⟨s4, e4, rfl, hr⟩, hc⟩
    rw [HM.out.back] at hr
    obtain rfl : e4 = 10 := by simpa using hr
    have HC4 := Lib.hid (HC3.out.trans hc (fun _ x => x.elim))
    clear hc hr
    have d20 : decide ((20 : Int) < (l.length : Int)) = false := by simp; omega
    by_cases h2 : 2 ≤ l.length
    · obtain ⟨r1, r2, r3⟩ := HM.out.rest h2
      have d1 : decide ((1 : Int) < (l.length : Int)) = true := by simp; omega
      have hne1 : l.drop 1 ≠ [] := by intro h; have := congrArg List.length h; simp at this; omega
      have hne2 : l.dropLast ≠ [] := by intro h; have := congrArg List.length h; simp at this; omega
      have HB1 := Lib.hid (fun w' => back_any u (l.drop 1) hu (fun x hx => HM.out.bits x (List.mem_of_mem_drop hx)) hne1 (by simp; omega) w')
      have HB2 := Lib.hid (fun w' => back_any u l.dropLast hu (fun x hx => HM.out.bits x (List.dropLast_subset l hx)) hne2 (by simp; omega) w')
      have HE2 : Hid (∀ w' : World, Calls Tryd.prog 6 #[.int .i64 (u : Int), .int .i64 ((l.length : Int) - 1)] w' fun e w'' => e = .returned (.tuple #[.string ⟨#[]⟩, .int .i64 10]) ∧ Chg (fun _ => False) w' w'') := Lib.hid (fun w' => by
        have h := eden_any (u : Int) ((l.length - 1 : Nat) : Int) w'
        rw [edenV_none hu (by omega) (by omega) r3] at h
        rw [show (l.length : Int) - 1 = ((l.length - 1 : Nat) : Int) by omega]
        exact h)
      have s1 := fun w' => slice_tail hpos (by omega) w'
      have s2 := fun w' => slice_butlast hpos (by omega) w'
      obtain ⟨tl, htl⟩ : ∃ tl, l.drop 1 = tl := ⟨_, rfl⟩
      obtain ⟨dl, hdl⟩ : ∃ dl, l.dropLast = dl := ⟨_, rfl⟩
      simp only [htl] at HB1 s1 r1
      simp only [hdl] at HB2 s2 r2
      have HR1 := Lib.hid r1; have HR2 := Lib.hid r2
      clear r1 r2 r3 hne1 hne2 htl hdl
      go_wp2_with fail
      refine (HB1.out _).mono ?_
      rintro e w5 ⟨⟨s5, e5, rfl, hr⟩, hc⟩
      rw [HR1.out] at hr
      obtain rfl : e5 = 0 := by simpa using hr
      have HC5 := Lib.hid (HC4.out.trans hc (fun _ x => x.elim))
      clear hc hr
      go_wp2_with fail
      refine (HB2.out _).mono ?_
      rintro e w6 ⟨⟨s6, e6, rfl, hr⟩, hc⟩
      rw [HR2.out] at hr
      obtain rfl : e6 = 0 := by simpa using hr
      have HC6 := Lib.hid (HC5.out.trans hc (fun _ x => x.elim))
      clear hc hr
      go_wp2_with fail
      refine (HE2.out _).mono ?_
      rintro e w7 ⟨rfl, hc⟩
      have HC7 := Lib.hid (HC6.out.trans hc (fun _ x => x.elim))
      clear hc
      go_wp2_with fail
      refine (alive_any _ (HK.out.chg HC7.out)).mono ?_
      rintro e w8 ⟨rfl, hc⟩
      have HC8 := Lib.hid (HC7.out.trans hc (fun _ x => x.elim))
      clear hc
      go_wp2_with fail
      go_ret
      exact ⟨rfl, HC8.out⟩
    · have d1 : decide ((1 : Int) < (l.length : Int)) = false := by simp; omega
      go_wp2_with fail
      refine (alive_any _ (HK.out.chg HC4.out)).mono ?_
      rintro e w8 ⟨rfl, hc⟩
      have HC8 := Lib.hid (HC4.out.trans hc (fun _ x => x.elim))
      clear hc
      go_wp2_with fail
      go_ret
      exact ⟨rfl, HC8.out⟩
end Go.Proofs.YtdopmafhdhahiaaDoor
