/- The search for an orphan: what it computes, in plain Lean; its queue in memory. No condition. -/
import Derived.Test.YtdopmafhdhahiaaDoorW9
set_option linter.unusedVariables false
namespace Go.Proofs.YtdopmafhdhahiaaDoor
open Go.RowKit

/-- A set of ends, and the row by which it is come to. -/
abbrev Fd := Nat × List Nat
def pushR (u : Nat) (p : Fd) (fs : List Fd) (x : Nat) : List Fd := if nextV u p.1 x ∈ fs.map (·.1) then fs else fs ++ [(nextV u p.1 x, p.2 ++ [x])]
def pushN (u : Nat) (p : Fd) (fs : List Fd) : Nat → List Fd
  | 0 => fs
  | x + 1 => pushR u p (pushN u p fs x) x
def orphF (u : Nat) (m : Option Nat) : Nat → Nat → List Fd → Option (List Nat)
  | 0, _, _ => none
  | f + 1, i, fs => match fs[i]? with
    | none => none
    | some p => if p.1 = 0 then some p.2 else if m = some p.2.length then orphF u m f (i + 1) fs else orphF u m f (i + 1) (pushN u p fs 2)
def orphV (u : Nat) (m : Option Nat) : Option (List Nat) := orphF u m 17 0 [(15, [])]

/-- What the queue is at every time. -/
structure Fnd (fs : List Fd) : Prop where
  one : (fs.map (·.1)).Nodup
  small : ∀ p ∈ fs, p.1 < 16 ∧ ∀ x ∈ p.2, x < 2
  short : ∀ j (h : j < fs.length), fs[j].2.length ≤ j

theorem nodup_small : ∀ (n : Nat) (l : List Nat), l.Nodup → (∀ x ∈ l, x < n) → l.length ≤ n := by
  intro n
  induction n with
  | zero =>
    intro l _ h
    cases l with
    | nil => simp
    | cons a l => exact absurd (h a (by simp)) (by omega)
  | succ n ih =>
    intro l hn h
    by_cases hm : n ∈ l
    · have h1 := ih (l.erase n) (hn.erase n) (fun x hx => by
        have h2 := h x (List.mem_of_mem_erase hx)
        have h3 : x ≠ n := by intro e; subst e; exact (List.Nodup.not_mem_erase hn) hx
        omega)
      rw [List.length_erase_of_mem hm] at h1
      omega
    · have h1 := ih l hn (fun x hx => by
        have h2 := h x hx
        have h3 : x ≠ n := by intro e; subst e; exact hm hx
        omega)
      omega

theorem Fnd.len {fs : List Fd} (h : Fnd fs) : fs.length ≤ 16 := by
  have := nodup_small 16 (fs.map (·.1)) h.one (fun x hx => by obtain ⟨p, hp, rfl⟩ := List.mem_map.1 hx; exact (h.small p hp).1)
  simpa using this

theorem Fnd.push {fs : List Fd} (h : Fnd fs) (u : Nat) {i : Nat} {p : Fd} (hi : fs[i]? = some p) {x : Nat} (hx : x < 2) : Fnd (pushR u p fs x) ∧ (pushR u p fs x)[i]? = some p := by
  obtain ⟨hil, hip⟩ := List.getElem?_eq_some_iff.1 hi
  unfold pushR
  split
  · exact ⟨h, hi⟩
  · rename_i hne
    have hps := h.small p (by rw [← hip]; exact List.getElem_mem hil)
    have hsh := h.short i hil
    rw [hip] at hsh
    refine ⟨⟨?_, ?_, ?_⟩, by rw [List.getElem?_append_left hil]; exact hi⟩
    · rw [List.map_append, List.nodup_append]
      refine ⟨h.one, by simp, ?_⟩
      intro a ha b hb hab
      simp at hb
      subst hab
      rw [hb] at ha
      exact hne ha
    · intro q hq
      rcases List.mem_append.1 hq with hq | hq
      · exact h.small q hq
      · simp at hq
        subst hq
        refine ⟨nextF_lt _ _ _ _, fun y hy => ?_⟩
        rcases List.mem_append.1 hy with hy | hy
        · exact hps.2 y hy
        · simp at hy; omega
    · intro j hj
      rw [List.length_append, List.length_singleton] at hj
      by_cases hjl : j < fs.length
      · rw [List.getElem_append_left hjl]
        exact h.short j hjl
      · obtain rfl : j = fs.length := by omega
        rw [List.getElem_append_right (Nat.le_refl _)]
        simp
        omega

theorem Fnd.pushN {fs : List Fd} (h : Fnd fs) (u : Nat) {i : Nat} {p : Fd} (hi : fs[i]? = some p) : ∀ {x : Nat}, x ≤ 2 → Fnd (pushN u p fs x) ∧ (YtdopmafhdhahiaaDoor.pushN u p fs x)[i]? = some p := by
  intro x
  induction x with
  | zero => exact fun _ => ⟨h, hi⟩
  | succ x ih =>
    intro hx
    have := ih (by omega)
    exact this.1.push u this.2 (by omega)

theorem Fnd.start : Fnd [(15, [])] := ⟨by simp, by simp, fun j hj => by simp at hj; subst hj; simp⟩

/-- The queue's cells. -/
def fdCells (p : Fd) : List Value := [.int .i64 (p.1 : Int), .string (txt p.2)]
def quCells (fs : List Fd) : List Value := fs.flatMap fdCells
theorem quCells_snoc (fs : List Fd) (p : Fd) : quCells (fs ++ [p]) = quCells fs ++ fdCells p := by simp [quCells]
theorem quCells_drop (fs : List Fd) (p : Fd) : (quCells (p :: fs)).drop 2 = quCells fs := rfl
theorem txt_snoc (l : List Nat) (x : Nat) : txt (l ++ [x]) = txt l ++ txt [x] := by
  unfold txt bytes
  rw [List.map_append]
  apply ByteArray.ext
  simp
end Go.Proofs.YtdopmafhdhahiaaDoor
