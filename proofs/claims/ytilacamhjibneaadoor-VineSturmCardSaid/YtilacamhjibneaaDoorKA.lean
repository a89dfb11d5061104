/- Texts on the vines, laid together (PA). Their conditions are their premises. -/
import Derived.Test.YtilacamhjibneaaDoorK4
import Derived.Test.YtilacamhjibneaaDoorCards
import Derived.Test.YtilacamhjibneaaDoorTie
import Derived.ProofKit
import Derived.LaidMore
import Derived.Stop.Joined
import Derived.OpenShut
import Derived.SliceStrings
import Derived.SevenTiedAt
set_option linter.unusedVariables false
/- What every card of the vines wants: the witness, the slices of strings opened. No condition. -/
namespace Go.Proofs.YtilacamhjibneaaDoor
open Go.ChangeShapes Go.WideShapes Go.ChangeAt Go.RowKit

theorem own : ownKnob Tryd.prog.godebug = none := by kernel_rfl
theorem laidOut : laidOutB Tryd.prog = true := by kernel_rfl

/-- The heap that the door's own run leaves, with the pinned table laid in its place. -/
noncomputable def withFirst (h : Array Go.Obj) : Array Go.Obj := match h[0]? with
  | some (Go.Obj.cells _ t r) => h.setIfInBounds 0 (Go.Obj.cells (Go.Pinned.utf8FirstZ.map fun (n : Nat) => Value.int .u8 (n : Int)).toArray t r)
  | _ => h
noncomputable def wit (os : Os) : World := { World.doorLaid Tryd.prog 24 os with heap := withFirst (World.doorLaid Tryd.prog 24 os).heap }
abbrev laidM : List (String × DataW Unit) := [("unicode/utf8.acceptRanges", Rows.laid_unicode_utf8_acceptRanges), ("unicode/utf8.first", Rows.laid_unicode_utf8_first)]
set_option maxRecDepth 100000 in
theorem wit_met (os : Os) (args : Array Value) : laidMetH Tryd.prog laidM ((wit os).forCall (fun _ _ => 0) ⟨#[], args, []⟩).memory :=
  laidMetH_of_parts3 (fuel := 8) (laidMet_of_run' 8 (by kernel_rfl) (by kernel_rfl)) (by kernel_rfl) (by kernel_rfl)

section
variable {H : Type} {enc : TypeId × Value → H} {w : World}
theorem cells9 : Tryd.prog.cellsOf 9 = 1 := by kernel_rfl
set_option maxRecDepth 100000 in
/-- A slice of strings among the arguments. -/
theorem open_sls {r : Reach} {b0 : Nat} {v : Value} {d : DataW H} {ps : List MemPlace} (hval : Value.okWide Tryd.prog w r b0 22 v) (hd : DataW.Trod enc Tryd.prog w 0 (fun _ => true) true 22 v d ps) :
    (∃ P, SlS w v P) ∧ ∀ x ∈ ps, x.block < w.heap.size := by
  have lt : ∀ x ∈ ps, x.block < w.heap.size := by obtain ⟨m, hm⟩ := hd; exact DataW.trod_lt m _ _ _ hm
  refine ⟨?_, lt⟩
  obtain ⟨a0, len, cap, rfl⟩ := okWide_slice Tryd.underlying22 hval
  obtain ⟨fuel, hf⟩ := hd
  rcases open_strings Tryd.underlying22 Tryd.underlying9 cells9 hf with ⟨hcs, _⟩ | ⟨a, len', cap', ss, hcs, _, hl, hm, hz, _, hcell, hsz⟩
  · simp [Value.cells] at hcs
    obtain ⟨rfl, rfl, rfl⟩ := hcs
    exact ⟨[], ⟨none, 0, 0, 0, rfl, fun k hk => by simp at hk, .inl rfl⟩, Nat.zero_le _, fun p hp => by simp at hp⟩
  · simp [Value.cells] at hcs
    obtain ⟨rfl, rfl, rfl⟩ := hcs
    have hz' : ss.length = cap := by simpa using hz
    have hlen : (ss.take len).length = len := by rw [List.length_take]; omega
    have hsp : ss.take len = [] ∨ a.spot = none := by
      by_cases h0 : len = 0
      · exact .inl (by rw [h0]; rfl)
      · refine .inr ?_
        have h := hcell 0 (by omega)
        unfold Addr.add at h
        cases hs : a.spot with
        | none => rfl
        | some p =>
          exfalso
          unfold World.cell? at h
          split at h
          · simp_all
          · cases h
    refine ⟨ss.take len, ⟨some a, a.block, a.off, cap, by rw [hlen], ?_, ?_⟩, by rw [hlen]; omega, fun p hp => hsz p (List.mem_of_mem_take hp)⟩
    · intro k hk
      rw [hlen] at hk
      have h1 := hcell k (by omega)
      rcases hsp with h0 | h0
      · have := congrArg List.length h0
        rw [hlen, List.length_nil] at this
        omega
      · have ha : a = ⟨a.block, a.off, none⟩ := by cases a; simp at h0; subst h0; rfl
        rw [ha, add_plain] at h1
        rw [h1, List.getD_eq_getElem?_getD, List.getElem?_eq_getElem (by omega), List.getElem_take]
        rfl
    · rcases hsp with h0 | h0
      · exact .inl h0
      · refine .inr ?_
        cases a
        simp at h0
        subst h0
        rfl
end
end Go.Proofs.YtilacamhjibneaaDoor
