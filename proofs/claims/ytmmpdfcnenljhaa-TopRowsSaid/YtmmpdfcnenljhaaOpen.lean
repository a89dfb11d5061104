/- Arguments opened to lists: a slice of fences, a ratio. No condition. -/
import Derived.Test.YtmmpdfcnenljhaaF21
import Derived.ProofKit
import Derived.Conc.Holds
import Derived.Leaving
import Derived.OpenShut
import Derived.ShutString
import Derived.ChangeOld
import Derived.Deep.Slices
import Derived.Lib.SmallJoins
set_option linter.unusedVariables false
namespace Go.Proofs.Ytmmpdfcnenljhaa
open Go.ChangeShapes Go.WideShapes Go.ChangeAt Go.RowKit Go.Deep Go.Joins

theorem own : ownKnob Try.prog.godebug = none := by kernel_rfl
theorem laidOut : laidOutB Try.prog = true := by kernel_rfl

section
variable {H : Type} {enc : TypeId × Value → H} {w : World} {base : Nat} {spare : Nat → Bool} {held : Bool}

set_option maxRecDepth 100000 in
theorem open_fence {n : Nat} {cs : List Value} {x : DataW H × List MemPlace} (h : DataW.trod enc Try.prog w base spare held n 24 cs = some x) :
    ∃ s : Fe, s.I64 ∧ cs = [.int .i64 s.a, .int .i64 s.b] := by
  obtain ⟨y0, y1, m, _, hl, h0, h1⟩ := trod_struct2 Try.underlying24 h
  have hl4 : cs.length = 2 := hl.trans (by kernel_rfl)
  match cs, hl4 with
  | [c0, c1], _ =>
    obtain ⟨n0, e0, _, w0⟩ := DataW.trod_int Try.underlying3 h0
    obtain ⟨n1, e1, _, w1⟩ := DataW.trod_int Try.underlying3 h1
    have q : Try.prog.cellsOf 3 = 1 := by kernel_rfl
    simp [q] at e0 e1
    subst e0 e1
    exact ⟨⟨n0, n1⟩, ⟨i64_of w0, i64_of w1⟩, rfl⟩

theorem spot_free {w : World} {a : Addr} {v : Value} (h : w.cell? (a.add 0) = some v) : a.spot = none := by simpa [Addr.add] using World.cell?_spot h

set_option maxRecDepth 100000 in
theorem open_fences {fuel : Nat} {cs : List Value} {x : DataW H × List MemPlace} (h : DataW.trod enc Try.prog w base spare held fuel 22 cs = some x) :
    ∃ (l : List Fe) (a : Option Addr) (cap b off : Nat), cs = [.slice a l.length cap] ∧ FencesAt w b off l ∧ (l = [] ∨ a = some ⟨b, off, none⟩) ∧ (∀ s ∈ l, s.I64) ∧ l.length ≤ cap ∧ cap ≤ maxLen := by
  rcases open_slice Try.underlying22 h with ⟨rfl, _⟩ | ⟨a, len, cap, m, n, D, Pl, rfl, hb, hlc, hcm, hm, hx, hi⟩
  · exact ⟨[], none, 0, 0, 0, rfl, fun k hk => by simp at hk, .inl rfl, fun s hs => by simp at hs, by simp, by simp⟩
  · have hlm : len ≤ m := by rw [hm]; split <;> omega
    have q : Try.prog.cellsOf 24 = 2 := by kernel_rfl
    have key : ∀ i : Nat, ∃ s : Fe, i < len → s.I64 ∧ ∀ j v, [Value.int .i64 s.a, .int .i64 s.b][j]? = some v → w.cell? (a.add (i * 2 + j)) = some v := by
      intro i
      by_cases hil : i < len
      · obtain ⟨cs', hc, ht⟩ := hi i (by omega)
        obtain ⟨s, hs, rfl⟩ := open_fence ht
        rw [q] at hc
        obtain ⟨_, _, hat⟩ := World.cells?_some hc
        refine ⟨s, fun _ => ⟨hs, fun j v hv => ?_⟩⟩
        have hj : j < 2 := by have := (List.getElem?_eq_some_iff.1 hv).1; simpa using this
        rw [← Go.Deep.add_add, hat j hj, hv]
      · exact ⟨default, fun h => absurd h hil⟩
    obtain ⟨f, hf⟩ := Classical.skolem.1 key
    obtain ⟨b, off, spot⟩ := a
    by_cases h0 : len = 0
    · subst h0
      exact ⟨[], _, cap, 0, 0, rfl, fun k hk => by simp at hk, .inl rfl, fun s hs => by simp at hs, by simp, hcm⟩
    · have hsp : spot = none := spot_free ((hf 0 (by omega)).2 0 _ rfl)
      subst hsp
      refine ⟨(List.range len).map f, some ⟨b, off, none⟩, cap, b, off, by simp, fun k hk => ?_, .inr rfl, fun s hs => ?_, by simpa using hlc, hcm⟩
      · have hk' : k < len := by simpa using hk
        have hc := (hf k hk').2
        simp only [List.getElem_map, List.getElem_range]
        have e : ∀ j, (⟨b, off, none⟩ : Addr).add (k * 2 + j) = ⟨b, off + k * 2 + j, none⟩ := fun j => by unfold Addr.add; split <;> simp_all [Nat.add_assoc]
        exact ⟨by have := hc 0 _ rfl; rwa [e, Nat.add_zero] at this, by have := hc 1 _ rfl; rwa [e] at this⟩
      · obtain ⟨i, hi', rfl⟩ := List.mem_map.1 hs
        exact (hf i (by simpa using hi')).1


set_option maxRecDepth 100000 in
theorem open_ratio {n : Nat} {cs : List Value} {x : DataW H × List MemPlace} (h : DataW.trod enc Try.prog w base spare held n 32 cs = some x) :
    ∃ p q : Int, cs = [.int .i64 p, .int .i64 q] := by
  obtain ⟨y0, y1, m, _, hl, h0, h1⟩ := trod_struct2 Try.underlying32 h
  have hl4 : cs.length = 2 := hl.trans (by kernel_rfl)
  match cs, hl4 with
  | [c0, c1], _ =>
    obtain ⟨n0, e0, _, w0⟩ := DataW.trod_int Try.underlying3 h0
    obtain ⟨n1, e1, _, w1⟩ := DataW.trod_int Try.underlying3 h1
    have q : Try.prog.cellsOf 3 = 1 := by kernel_rfl
    simp [q] at e0 e1
    subst e0 e1
    exact ⟨n0, n1, rfl⟩

set_option maxRecDepth 100000 in
theorem open_ratio_arg {w W : World} {base b0 : Nat} {spare : Nat → Bool} {held : Bool} {r : Reach} {v : Value} {d : DataW H} {p : List MemPlace}
    (hv : Value.okWide Try.prog W r b0 32 v) (h : DataW.Trod enc Try.prog w base spare held 32 v d p) : ∃ x y : Int, v = .agg #[.int .i64 x, .int .i64 y] := by
  obtain ⟨cs, rfl, hsz⟩ := okWide_struct Try.underlying32 hv
  obtain ⟨fuel, hf⟩ := h
  obtain ⟨x, y, he⟩ := open_ratio hf
  refine ⟨x, y, ?_⟩
  have : cs.toList = [.int .i64 x, .int .i64 y] := by simpa [Value.cells] using he
  congr 1
  exact Array.toList_inj.1 this

/-- A statement that asks for a return at which others may be leaving, out of one at which nobody else is there. -/
theorem leaving_of {a : Assume} {C : Checked} {os : Os} {f : FuncId} {r : Reach} {Pre : World → Array Value → Prop} {Post : World → Array Value → Value → World → Prop}
    (h : ReturnsInHanded a C os f r Pre Post) : ReturnsInLeavingWide a C os f r Pre Post := fun enter =>
  ReturnsInOpen.mono (fun _ _ _ ⟨h1, h2, h3⟩ => ⟨h2, onlyLeaving_of_quiet h1, h3⟩) (fun _ x => x) (h enter)
end
end Go.Proofs.Ytmmpdfcnenljhaa
