/- OneToOne; the rows from which a row can still come, in plain Lean. Its conditions are its premises. -/
import Derived.Test.YtdopmafhdhahiaaDoorW27
set_option linter.unusedVariables false
namespace Go.Proofs.YtdopmafhdhahiaaDoor
open Go.RowKit Go.Maps

def oneV (u : Int) : Value := if 0 ≤ u ∧ u ≤ 255 then .tuple #[.bool (!splitsV u.toNat), .int .i64 0] else .tuple #[.bool false, .int .i64 2]

set_option maxRecDepth 100000 in
set_option maxHeartbeats 400000 in
theorem one_any (u : Nat) (hu : u < 256) (w : World) : Calls Tryd.prog 15 #[.int .i64 u] w fun e w' => e = .returned (.tuple #[.bool (!splitsV u), .int .i64 0]) ∧ Chg (fun _ => False) w w' := by
  have hd : decide (0 ≤ (u : Int) ∧ (u : Int) ≤ 255) = true := by simp; omega
  have HK := Lib.hid (fun w' => known_any (u : Int) w')
  simp only [hd] at HK
  clear hd
  go_enter Tryd.func15, Tryd.ntmps15
  go_wp2_with fail
  refine (HK.out _).mono ?_
  rintro e W ⟨rfl, rfl⟩
  go_wp2_with fail
  refine (splits_any u hu _).mono ?_
  rintro e w2 ⟨rfl, hc⟩
  have HC := Lib.hid hc
  clear hc
  obtain ⟨sv, hsv⟩ : ∃ sv, splitsV u = sv := ⟨_, rfl⟩
  have HS := Lib.hid hsv
  rw [hsv]
  clear hsv
  cases sv with
  | true =>
    go_wp2_with fail
    go_ret2
    exact ⟨by rw [HS.out]; rfl, HC.out⟩
  | false =>
    go_wp2_with fail
    go_ret2
    exact ⟨by rw [HS.out]; rfl, HC.out⟩

/-- One round, for the pairs that can come before a plot that becomes x. -/
def bckR (u x e o t : Nat) : Nat := if bit u t = x ∧ e / 2 ^ (t % 4) % 2 = 1 then o ||| 2 ^ (t / 2) else o
def bckF (u x e : Nat) : Nat → Nat
  | 0 => 0
  | t + 1 => bckR u x e (bckF u x e t) t
def canS (u : Nat) : List Nat → Nat
  | [] => 15
  | x :: l => bckF u x (canS u l) 8
theorem bckF_lt (u x e : Nat) : ∀ t, t ≤ 8 → bckF u x e t < 16
  | 0, _ => by show 0 < 16; omega
  | t + 1, ht => by
    have ih := bckF_lt u x e t (by omega)
    show bckR u x e (bckF u x e t) t < 16
    unfold bckR
    split
    · exact Nat.or_lt_two_pow (n := 4) ih (Nat.pow_lt_pow_right (by omega) (by omega))
    · exact ih
theorem canS_lt (u : Nat) : ∀ l, canS u l < 16
  | [] => by show 15 < 16; omega
  | x :: l => bckF_lt u x _ 8 (by omega)
def canA (u : Nat) (l : List Nat) (m : Nat) : List Nat := (List.range (l.length + 1)).map fun p => if p < m then 0 else canS u (l.drop p)
theorem canA_len (u : Nat) (l : List Nat) (m : Nat) : (canA u l m).length = l.length + 1 := by simp [canA]
theorem canA_at (u : Nat) (l : List Nat) (m : Nat) {p : Nat} (hp : p ≤ l.length) : at0 (canA u l m) p = if p < m then 0 else canS u (l.drop p) := by
  unfold at0 canA
  rw [List.getElem?_map, List.getElem?_range (by omega)]
  rfl
theorem canA_start (u : Nat) (l : List Nat) : (List.replicate (l.length + 1) 0).set l.length 15 = canA u l l.length := by
  apply List.ext_getElem?
  intro i
  unfold canA
  rw [List.getElem?_set, List.getElem?_map]
  by_cases h1 : l.length = i
  · subst h1
    rw [if_pos rfl, if_pos (by simp), List.getElem?_range (by omega)]
    simp [canS]
  · rw [if_neg h1, List.getElem?_replicate]
    by_cases h2 : i < l.length + 1
    · rw [if_pos h2, List.getElem?_range h2]
      have h3 : i < l.length := by omega
      simp [h3]
    · rw [if_neg h2, List.getElem?_eq_none (by simp; omega)]
      rfl
theorem canA_step (u : Nat) (l : List Nat) {i : Nat} (hi : i < l.length) : (canA u l (i + 1)).set i (bckF u l[i] (canS u (l.drop (i + 1))) 8) = canA u l i := by
  apply List.ext_getElem?
  intro j
  unfold canA
  rw [List.getElem?_set, List.getElem?_map, List.getElem?_map]
  by_cases h1 : i = j
  · subst h1
    rw [if_pos rfl, if_pos (by simp; omega), List.getElem?_range (by omega)]
    have : l.drop i = l[i] :: l.drop (i + 1) := List.drop_eq_getElem_cons hi
    show some _ = some (if i < i then 0 else canS u (l.drop i))
    rw [if_neg (Nat.lt_irrefl i), this]
    rfl
  · rw [if_neg h1]
    by_cases h2 : j < l.length + 1
    · rw [List.getElem?_range h2]
      simp only [Option.map_some, Option.some.injEq]
      by_cases h3 : j < i
      · rw [if_pos (by omega), if_pos h3]
      · rw [if_neg (by omega), if_neg h3]
    · rw [List.getElem?_eq_none (by simp; omega)]
      rfl
theorem canA_zero (u : Nat) (l : List Nat) {i : Nat} (hi : i < l.length) : (canA u l (i + 1)).set i 0 = canA u l (i + 1) := by
  refine set_same ?_
  unfold canA
  rw [List.getElem?_map, List.getElem?_range (by omega)]
  simp

/-- Is there a bit of the first set? -/
def backB (u : Nat) (l : List Nat) : Bool := canS u l != 0
end Go.Proofs.YtdopmafhdhahiaaDoor
