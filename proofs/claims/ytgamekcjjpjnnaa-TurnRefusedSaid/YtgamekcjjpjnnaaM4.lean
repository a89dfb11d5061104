/- Rings as plain data: the steps of a ring, its sums, the events it has met. No program. -/
import Derived.Test.YtgamekcjjpjnnaaM3
import Derived.Test.YtgamekcjjpjnnaaA3
set_option linter.unusedVariables false
namespace Go.Proofs.Ytgamekcjjpjnnaa

/-- The span of a step, gone along or against. -/
def kSp (l : List Sp) (k : Int) : Sp :=
  if 0 < k then l.getD (k.natAbs - 1) default else ⟨(l.getD (k.natAbs - 1) default).dst, (l.getD (k.natAbs - 1) default).src, -(l.getD (k.natAbs - 1) default).hi, -(l.getD (k.natAbs - 1) default).lo⟩

def kOk (l : List Sp) (k : Int) : Prop := k ≠ 0 ∧ -(l.length : Int) ≤ k ∧ k ≤ l.length
instance (l : List Sp) (k : Int) : Decidable (kOk l k) := by unfold kOk; infer_instance

/-- The first m steps hang together. -/
structure Chain (l : List Sp) (R : List Int) (m : Nat) : Prop where
  ok : ∀ i, i < m → kOk l (hr R i)
  new : ∀ i j, i < j → j < m → (kSp l (hr R i)).src ≠ (kSp l (hr R j)).src
  next : ∀ i, i + 1 < m → (kSp l (hr R i)).dst = (kSp l (hr R (i + 1))).src

def isRing (n : Nat) (l : List Sp) (R : List Int) : Prop := 2 ≤ R.length ∧ R.length ≤ n ∧ Chain l R R.length ∧ (kSp l (hr R 0)).src = (kSp l (hr R (R.length - 1))).dst

def sumLo (l : List Sp) (R : List Int) : Nat → Int
  | 0 => 0
  | m + 1 => sumLo l R m + (kSp l (hr R m)).lo
def sumHi (l : List Sp) (R : List Int) : Nat → Int
  | 0 => 0
  | m + 1 => sumHi l R m + (kSp l (hr R m)).hi
def seenN (l : List Sp) (R : List Int) : Nat → Nat
  | 0 => 0
  | m + 1 => seenN l R m ||| 2 ^ (kSp l (hr R m)).src.toNat

theorem seenN_bit (l : List Sp) (R : List Int) (m x : Nat) : (seenN l R m).testBit x = true ↔ ∃ i, i < m ∧ (kSp l (hr R i)).src.toNat = x := by
  induction m with
  | zero => simp [seenN]
  | succ m ih =>
    simp only [seenN, Nat.testBit_or, Bool.or_eq_true, ih, Nat.testBit_two_pow, decide_eq_true_eq]
    constructor
    · rintro (⟨i, h1, h2⟩ | h)
      · exact ⟨i, by omega, h2⟩
      · exact ⟨m, by omega, h⟩
    · rintro ⟨i, h1, h2⟩
      by_cases he : i = m
      · subst he; exact .inr h2
      · exact .inl ⟨i, by omega, h2⟩

theorem kSp_ok {t n : Int} {l : List Sp} (hv : Valid t n l) {k : Int} (hk : kOk l k) :
    0 ≤ (kSp l k).src ∧ (kSp l k).src < n ∧ 0 ≤ (kSp l k).dst ∧ (kSp l k).dst < n ∧ (kSp l k).src ≠ (kSp l k).dst ∧ -700 ≤ (kSp l k).lo ∧ (kSp l k).lo ≤ 700 ∧ -700 ≤ (kSp l k).hi ∧ (kSp l k).hi ≤ 700 ∧ (kSp l k).lo ≤ (kSp l k).hi := by
  obtain ⟨h0, h1, h2⟩ := hk
  have hlt : k.natAbs - 1 < l.length := by omega
  have e : l.getD (k.natAbs - 1) default = l[k.natAbs - 1] := by rw [List.getD_eq_getElem?_getD, List.getElem?_eq_getElem hlt]; rfl
  have h3 := hv.ok _ (List.getElem_mem hlt)
  have h4 := hv.t2
  have h5 := hv.t1
  unfold kSp
  rw [e]
  split <;> (try dsimp only) <;> omega

theorem seenN_lt {t n : Int} {l : List Sp} (hv : Valid t n l) {R : List Int} {m : Nat} (hk : ∀ i, i < m → kOk l (hr R i)) : seenN l R m < 64 := by
  induction m with
  | zero => simp [seenN]
  | succ m ih =>
    have h1 := ih (fun i hi => hk i (by omega))
    have h2 := kSp_ok hv (hk m (by omega))
    have h3 := hv.n2
    have h4 : 2 ^ (kSp l (hr R m)).src.toNat < 2 ^ 6 := Nat.pow_lt_pow_right (by omega) (by omega)
    exact Nat.or_lt_two_pow (n := 6) h1 h4

theorem sum_bounds {t n : Int} {l : List Sp} (hv : Valid t n l) {R : List Int} {m : Nat} (hk : ∀ i, i < m → kOk l (hr R i)) :
    -(700 * m : Int) ≤ sumLo l R m ∧ sumLo l R m ≤ 700 * m ∧ -(700 * m : Int) ≤ sumHi l R m ∧ sumHi l R m ≤ 700 * m := by
  induction m with
  | zero => simp [sumLo, sumHi]
  | succ m ih =>
    have h1 := ih (fun i hi => hk i (by omega))
    have h2 := kSp_ok hv (hk m (by omega))
    simp only [sumLo, sumHi]
    omega

theorem Chain.zero {l : List Sp} {R : List Int} : Chain l R 0 := ⟨fun i h => by omega, fun i j h1 h2 => by omega, fun i h => by omega⟩
theorem Chain.mono {l : List Sp} {R : List Int} {m k : Nat} (h : Chain l R m) (hk : k ≤ m) : Chain l R k := ⟨fun i h1 => h.ok i (by omega), fun i j h1 h2 => h.new i j h1 (by omega), fun i h1 => h.next i (by omega)⟩

theorem Chain.step {l : List Sp} {R : List Int} {m : Nat} (h : Chain l R m) (h1 : kOk l (hr R m)) (h2 : ∀ i, i < m → (kSp l (hr R i)).src ≠ (kSp l (hr R m)).src) (h3 : 0 < m → (kSp l (hr R (m - 1))).dst = (kSp l (hr R m)).src) : Chain l R (m + 1) := by
  refine ⟨fun i hi => ?_, fun i j hij hj => ?_, fun i hi => ?_⟩
  · by_cases he : i = m
    · rw [he]; exact h1
    · exact h.ok i (by omega)
  · by_cases he : j = m
    · rw [he]; exact h2 i (by omega)
    · exact h.new i j hij (by omega)
  · by_cases he : i + 1 = m
    · have := h3 (by omega)
      rw [← he] at this
      simpa using this
    · exact h.next i (by omega)

/-- No more steps than events. -/
theorem Chain.few {t n : Int} {l : List Sp} (hv : Valid t n l) {R : List Int} {m : Nat} (h : Chain l R m) : (m : Int) ≤ n := by
  have hn := hv.n1
  have hnd : ((List.range m).map fun i => (kSp l (hr R i)).src.toNat).Nodup := by
    rw [List.nodup_iff_pairwise_ne, List.pairwise_map]
    refine List.Pairwise.imp_of_mem ?_ (List.pairwise_lt_range (n := m))
    intro i j hi hj hij he
    have h1 := kSp_ok hv (h.ok i (by simpa using hi))
    have h2 := kSp_ok hv (h.ok j (by simpa using hj))
    exact h.new i j hij (by simpa using hj) (by omega)
  have hsub : ∀ x ∈ ((List.range m).map fun i => (kSp l (hr R i)).src.toNat), x ∈ List.range n.toNat := by
    intro x hx
    obtain ⟨i, hi, rfl⟩ := List.mem_map.1 hx
    have h1 := kSp_ok hv (h.ok i (by simpa using hi))
    rw [List.mem_range]
    omega
  have := List.Nodup.length_le_of_subset hnd hsub
  simp at this
  omega
end Go.Proofs.Ytgamekcjjpjnnaa
