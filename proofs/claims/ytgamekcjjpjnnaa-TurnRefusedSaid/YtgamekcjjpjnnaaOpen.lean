/- Arguments opened to lists: a slice of spans, a slice of whole numbers. No condition. -/
import Derived.Test.YtgamekcjjpjnnaaA3
import Derived.ProofKit
import Derived.OpenShut
import Derived.ShutString
import Derived.ChangeOld
import Derived.Deep.Slices
import Derived.Lib.SmallJoins
set_option linter.unusedVariables false
namespace Go.Proofs.Ytgamekcjjpjnnaa
open Go.ChangeShapes Go.WideShapes Go.ChangeAt Go.RowKit Go.Deep Go.Joins

theorem own : ownKnob Try.prog.godebug = none := by kernel_rfl
theorem laidOut : laidOutB Try.prog = true := by kernel_rfl

section
variable {H : Type} {enc : TypeId × Value → H} {w : World} {base : Nat} {spare : Nat → Bool} {held : Bool}

theorem open_span {n : Nat} {cs : List Value} {x : DataW H × List MemPlace} (h : DataW.trod enc Try.prog w base spare held n 32 cs = some x) :
    ∃ s : Sp, s.I64 ∧ cs = [.int .i64 s.src, .int .i64 s.dst, .int .i64 s.lo, .int .i64 s.hi] := by
  obtain ⟨y0, y1, y2, y3, m, _, hl, h0, h1, h2, h3⟩ := trod_struct4 Try.underlying32 h
  have hl4 : cs.length = 4 := hl.trans (by kernel_rfl)
  match cs, hl4 with
  | [c0, c1, c2, c3], _ =>
    obtain ⟨n0, e0, _, w0⟩ := DataW.trod_int Try.underlying3 h0
    obtain ⟨n1, e1, _, w1⟩ := DataW.trod_int Try.underlying3 h1
    obtain ⟨n2, e2, _, w2⟩ := DataW.trod_int Try.underlying3 h2
    obtain ⟨n3, e3, _, w3⟩ := DataW.trod_int Try.underlying3 h3
    have q : Try.prog.cellsOf 3 = 1 := by kernel_rfl
    simp [q] at e0 e1 e2 e3
    subst e0 e1 e2 e3
    exact ⟨⟨n0, n1, n2, n3⟩, ⟨i64_of w0, i64_of w1, i64_of w2, i64_of w3⟩, rfl⟩

theorem spot_free {w : World} {a : Addr} {v : Value} (h : w.cell? (a.add 0) = some v) : a.spot = none := by simpa [Addr.add] using World.cell?_spot h

theorem open_spans {fuel : Nat} {cs : List Value} {x : DataW H × List MemPlace} (h : DataW.trod enc Try.prog w base spare held fuel 22 cs = some x) :
    ∃ (l : List Sp) (a : Option Addr) (cap b off : Nat), cs = [.slice a l.length cap] ∧ SpansAt w b off l ∧ (l = [] ∨ a = some ⟨b, off, none⟩) ∧ (∀ s ∈ l, s.I64) ∧ l.length ≤ cap ∧ cap ≤ maxLen := by
  rcases open_slice Try.underlying22 h with ⟨rfl, _⟩ | ⟨a, len, cap, m, n, D, Pl, rfl, hb, hlc, hcm, hm, hx, hi⟩
  · exact ⟨[], none, 0, 0, 0, rfl, fun k hk => by simp at hk, .inl rfl, fun s hs => by simp at hs, by simp, by simp⟩
  · have hlm : len ≤ m := by rw [hm]; split <;> omega
    have q : Try.prog.cellsOf 32 = 4 := by kernel_rfl
    have key : ∀ i : Nat, ∃ s : Sp, i < len → s.I64 ∧ ∀ j v, [Value.int .i64 s.src, .int .i64 s.dst, .int .i64 s.lo, .int .i64 s.hi][j]? = some v → w.cell? (a.add (i * 4 + j)) = some v := by
      intro i
      by_cases hil : i < len
      · obtain ⟨cs', hc, ht⟩ := hi i (by omega)
        obtain ⟨s, hs, rfl⟩ := open_span ht
        rw [q] at hc
        obtain ⟨_, _, hat⟩ := World.cells?_some hc
        refine ⟨s, fun _ => ⟨hs, fun j v hv => ?_⟩⟩
        have hj : j < 4 := by have := (List.getElem?_eq_some_iff.1 hv).1; simpa using this
        rw [← Go.Deep.add_add, hat j hj, hv]
      · exact ⟨default, fun h => absurd h hil⟩
    obtain ⟨f, hf⟩ := Classical.skolem.1 key
    obtain ⟨b, off, spot⟩ := a
    by_cases h0 : len = 0
    · subst h0
      exact ⟨[], _, cap, 0, 0, rfl, fun k hk => by simp at hk, .inl rfl, fun s hs => by simp at hs, by simp, hcm⟩
    · have hsp : spot = none := spot_free ((hf 0 (by omega)).2 0 _ rfl)
      subst hsp
      refine ⟨(List.range len).map f, some ⟨b, off, none⟩, cap, b, off, by simp, fun k hk => ?_, .inr rfl, fun s hs => ?_, by simpa using hlc, hcm⟩
      · have hk' : k < len := by simpa using hk
        have hc := (hf k hk').2
        simp only [List.getElem_map, List.getElem_range]
        have e : ∀ j, (⟨b, off, none⟩ : Addr).add (k * 4 + j) = ⟨b, off + k * 4 + j, none⟩ := fun j => by unfold Addr.add; split <;> simp_all [Nat.add_assoc]
        exact ⟨by have := hc 0 _ rfl; rwa [e, Nat.add_zero] at this, by have := hc 1 _ rfl; rwa [e] at this, by have := hc 2 _ rfl; rwa [e] at this, by have := hc 3 _ rfl; rwa [e] at this⟩
      · obtain ⟨i, hi', rfl⟩ := List.mem_map.1 hs
        exact (hf i (by simpa using hi')).1

theorem open_nums {fuel : Nat} {cs : List Value} {x : DataW H × List MemPlace} (h : DataW.trod enc Try.prog w base spare held fuel 25 cs = some x) :
    ∃ (l : List Int) (a : Option Addr) (cap b off : Nat), cs = [.slice a l.length cap] ∧ IntsAt w b off l ∧ (l = [] ∨ a = some ⟨b, off, none⟩) ∧ (∀ x ∈ l, I64 x) ∧ l.length ≤ cap ∧ cap ≤ maxLen := by
  rcases open_ints Try.underlying25 Try.underlying3 (by kernel_rfl) h with ⟨rfl, _⟩ | ⟨a, len, cap, zs, rfl, hb, hlc, hcm, hz, _, hc, hwf⟩
  · exact ⟨[], none, 0, 0, 0, rfl, fun k hk => by simp at hk, .inl rfl, fun s hs => by simp at hs, by simp, by simp⟩
  · have hlz : len ≤ zs.length := by rw [hz]; split <;> omega
    obtain ⟨b, off, spot⟩ := a
    by_cases h0 : len = 0
    · subst h0
      exact ⟨[], _, cap, 0, 0, rfl, fun k hk => by simp at hk, .inl rfl, fun s hs => by simp at hs, by simp, hcm⟩
    · have hsp : spot = none := spot_free (hc 0 (by omega))
      subst hsp
      have hl : (zs.take len).length = len := by simp; omega
      refine ⟨zs.take len, some ⟨b, off, none⟩, cap, b, off, by rw [hl], fun k hk => ?_, .inr rfl, fun s hs => i64_of (hwf s (List.mem_of_mem_take hs)), by omega, hcm⟩
      have hk' : k < len := by omega
      have h1 := hc k (by omega)
      have e : (⟨b, off, none⟩ : Addr).add k = ⟨b, off + k, none⟩ := by unfold Addr.add; split <;> simp_all
      rw [e] at h1
      rw [h1, List.getElem_take, List.getD_eq_getElem?_getD, List.getElem?_eq_getElem (by omega)]
      rfl
end
end Go.Proofs.Ytgamekcjjpjnnaa
