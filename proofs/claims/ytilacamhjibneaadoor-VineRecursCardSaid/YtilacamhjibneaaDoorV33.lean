/- At of the reference, walked. Its conditions are its premises. -/
import Derived.Test.YtilacamhjibneaaDoorV32
set_option linter.unusedVariables false
namespace Go.Proofs.YtilacamhjibneaaDoor
open Go.RowKit

/-- The letter in which the place lies, and the place within it. -/
def fnd : List Nat → List Nat → Nat → Option (Nat × Nat)
  | [], _, _ => none
  | c :: s, R, l => if at0 R c ≤ l then fnd s R (l - at0 R c) else some (c, l)
def atF (V : List (List Nat)) : Nat → List Nat → Nat → Option Nat
  | 0, s, l => (fnd s (tab V 0) l).map Prod.fst
  | y + 1, s, l => match fnd s (tab V (y + 1)) l with
    | none => none
    | some (c, m) => atF V y (part V c) m
def sm (s R : List Nat) : Nat := (s.map (at0 R)).sum
theorem tbP_eq (s R : List Nat) : ∀ k, k ≤ s.length → tbP s R k = min (sm (s.take k) R) M63
  | 0, _ => by simp [tbP, sm]
  | k + 1, hk => by
    have hk' : k < s.length := hk
    rw [tbP, tbP_eq s R k (by omega), at0_lt_of hk', List.take_succ_eq_append_getElem hk']
    unfold sm
    rw [List.map_append, List.sum_append]
    simp
    omega
theorem lngV_eq (s R : List Nat) : lngV s R = min (sm s R) M63 := by
  unfold lngV
  rw [tbP_eq s R _ (Nat.le_refl _), List.take_length]
theorem fnd_none : ∀ (s R : List Nat) (l : Nat), fnd s R l = none ↔ sm s R ≤ l
  | [], R, l => by simp [fnd, sm]
  | c :: s, R, l => by
    unfold fnd
    have hs : sm (c :: s) R = at0 R c + sm s R := by simp [sm]
    rw [hs]
    split
    · rw [fnd_none s R _]
      omega
    · simp
      omega
theorem fnd_some {s R : List Nat} {l c m : Nat} (h : fnd s R l = some (c, m)) : c ∈ s ∧ m < at0 R c := by
  induction s generalizing l with
  | nil => cases h
  | cons d s ih =>
    unfold fnd at h
    split at h
    · obtain ⟨h1, h2⟩ := ih h
      exact ⟨by simp [h1], h2⟩
    · cases h
      exact ⟨by simp, by omega⟩
theorem fnd_drop {s : List Nat} {k : Nat} (h : k < s.length) (R : List Nat) (l : Nat) : fnd (s.drop k) R l = if at0 R s[k] ≤ l then fnd (s.drop (k + 1)) R (l - at0 R s[k]) else some (s[k], l) := by
  rw [List.drop_eq_getElem_cons h, fnd]
theorem fnd_lt {s R : List Nat} {k l : Nat} {r : Nat × Nat} (h : fnd (s.drop k) R l = some r) : k < s.length := by
  rcases Nat.lt_or_ge k s.length with h1 | h1
  · exact h1
  · rw [List.drop_of_length_le h1] at h
    cases h
theorem sm_le_lng {s R : List Nat} {l : Nat} (hl : l < M63) : sm s R ≤ l ↔ lngV s R ≤ l := by
  rw [lngV_eq]
  omega
theorem atF_none {V : List (List Nat)} (hV : WF V) : ∀ (y : Nat) (s : List Nat) (l : Nat), (∀ c ∈ s, c < V.length) → l < M63 → (atF V y s l = none ↔ lngV s (tab V y) ≤ l)
  | 0, s, l, hs, hl => by
    rw [← sm_le_lng hl, ← fnd_none, atF]
    cases fnd s (tab V 0) l <;> simp
  | y + 1, s, l, hs, hl => by
    rw [← sm_le_lng hl, ← fnd_none, atF]
    cases h : fnd s (tab V (y + 1)) l with
    | none => simp
    | some r =>
      obtain ⟨c, m⟩ := r
      obtain ⟨h1, h2⟩ := fnd_some h
      have hc := hs c h1
      rw [tab_succ hc] at h2
      have hm : m < M63 := by have := tbP_le (part V c) (tab V y) (part V c).length; unfold lngV at h2; omega
      have ih := atF_none hV y (part V c) m (hV.part_le c).2 hm
      simp only [reduceCtorEq, iff_false]
      rw [ih]
      omega
theorem str_one {s : List Nat} {k : Nat} (h : k < s.length) : (str s).extract k (k + 1) = str [s[k]] := by
  apply ByteArray.ext
  apply Array.ext'
  show _ = List.map chr [s[k]]
  rw [Lib.extract_data]
  simp [str]
  have h' : k < (List.map chr s).length := by simpa using h
  rw [List.drop_eq_getElem_cons h']
  simp
def atOk (V : List (List Nat)) (t : List Nat) (years place : Int) : Value :=
  if ¬ (0 ≤ years ∧ years ≤ 1000) then .tuple #[.string ⟨#[]⟩, .int .i64 3] else if place < 0 then .tuple #[.string ⟨#[]⟩, .int .i64 4] else
  match atF V years.toNat t place.toNat with
  | none => .tuple #[.string ⟨#[]⟩, .int .i64 6]
  | some c => .tuple #[.string (str [c]), .int .i64 0]
theorem rshoot_ok (V : List (List Nat)) (hV : WF V) (t : List Nat) (ht : ∀ c ∈ t, c < V.length) (hl : t.length ≤ 30) (b off cap : Nat) (w : World) (hv : VAt w b off V) :
    Calls Tryd.prog 36 #[.slice (some ⟨b, off, none⟩) V.length cap, .string (str t)] w fun e w' => e = .returned (.int .i64 0) ∧ w' = w := by
  have h6 := hV.le
  have h := rshoot_any (V.map str) (str t) (some ⟨b, off, none⟩) cap b off w (strs_of hv) (.inr rfl) (by rw [List.length_map]; omega) (by
    intro p hp
    obtain ⟨q, hq, rfl⟩ := List.mem_map.1 hp
    rw [str_size]
    have := (hV.small q hq).1
    omega) (by rw [str_size]; omega)
  rw [List.length_map, errS_ok hV ht hl] at h
  exact h
end Go.Proofs.YtilacamhjibneaaDoor
