/- For each two events the hours by which the second can be later, plain; plans. -/
import Derived.Test.YtmmpdfcnenljhaaT1
set_option linter.unusedVariables false
namespace Go.Proofs.Ytmmpdfcnenljhaa.Turn
open Go.RowKit
def at6 (M : List Nat) (i j : Nat) : Nat := M.getD (i * 6 + j) 0

theorem at6_set {M : List Nat} {i j : Nat} (hi : i < 6) (hj : j < 6) (hM : M.length = 36) (v : Nat) {i' j' : Nat} (hi' : i' < 6) (hj' : j' < 6) :
    at6 (M.set (i * 6 + j) v) i' j' = if i' = i ∧ j' = j then v else at6 M i' j' := by
  unfold at6
  rw [List.getD_eq_getElem?_getD, List.getD_eq_getElem?_getD, List.getElem?_set]
  by_cases h : i' = i ∧ j' = j
  · obtain ⟨rfl, rfl⟩ := h
    rw [if_pos rfl, if_pos (by omega), if_pos ⟨rfl, rfl⟩]
    rfl
  · rw [if_neg (by omega), if_neg h]

theorem at6_get {M : List Nat} {i j : Nat} (hi : i < 6) (hj : j < 6) (hM : M.length = 36) : M[i * 6 + j]? = some (at6 M i j) := by
  unfold at6
  rw [List.getD_eq_getElem?_getD, List.getElem?_eq_getElem (by omega)]
  rfl

theorem at6_mem {M : List Nat} {i j : Nat} (hi : i < 6) (hj : j < 6) (hM : M.length = 36) : at6 M i j ∈ M := List.mem_of_getElem? (at6_get hi hj hM)

/-- The hour of an event. -/
def hr (X : List Int) (i : Nat) : Int := X.getD i 0

/-- Hours that keep all spans. -/
structure Keeps (T N : Nat) (l : List Sp) (X : List Int) : Prop where
  len : X.length = N
  rng : ∀ i, i < N → 0 ≤ hr X i ∧ hr X i < T
  span : ∀ s ∈ l, (hr X s.dst.toNat - hr X s.src.toNat - s.lo) % (T : Int) ≤ s.hi - s.lo

def diff (T : Nat) (X : List Int) (i j : Nat) : Nat := ((hr X j - hr X i) % (T : Int)).toNat

theorem diff_lt {T : Nat} (hT : 0 < T) (X : List Int) (i j : Nat) : diff T X i j < T := by
  unfold diff
  have h1 := Int.emod_nonneg (hr X j - hr X i) (show (T : Int) ≠ 0 by omega)
  have h2 := Int.emod_lt_of_pos (hr X j - hr X i) (show (0 : Int) < T by omega)
  omega

theorem diff_val {T : Nat} (hT : 0 < T) (X : List Int) (i j : Nat) : (diff T X i j : Int) = (hr X j - hr X i) % (T : Int) := by
  unfold diff
  have h1 := Int.emod_nonneg (hr X j - hr X i) (show (T : Int) ≠ 0 by omega)
  omega

def Sound (T N : Nat) (l : List Sp) (M : List Nat) : Prop := ∀ X, Keeps T N l X → ∀ i j, i < N → j < N → (at6 M i j).testBit (diff T X i j) = true

def Diag (N : Nat) (M : List Nat) : Prop := ∀ i, i < N → ∀ h, (at6 M i i).testBit h = true → h = 0

/-- The sets are no wider than a span allows. -/
def Tight (T : Nat) (M : List Nat) (s : Sp) : Prop := (∀ h : Nat, h < T → (at6 M s.src.toNat s.dst.toNat).testBit h = true → ((h : Int) - s.lo) % (T : Int) ≤ s.hi - s.lo) ∧
  (∀ h : Nat, h < T → (at6 M s.dst.toNat s.src.toNat).testBit h = true → (-(h : Int) - s.lo) % (T : Int) ≤ s.hi - s.lo)

def Small (T : Nat) (M : List Nat) : Prop := M.length = 36 ∧ ∀ x ∈ M, x < 2 ^ T

/-- No bit of M' is missing in M. -/
def Sub (M' M : List Nat) : Prop := ∀ i j, i < 6 → j < 6 → ∀ h, (at6 M' i j).testBit h = true → (at6 M i j).testBit h = true

theorem Small.at {T : Nat} {M : List Nat} (h : Small T M) {i j : Nat} (hi : i < 6) (hj : j < 6) : at6 M i j < 2 ^ T := h.2 _ (at6_mem hi hj h.1)

theorem Small.set {T : Nat} {M : List Nat} (h : Small T M) (k : Nat) {v : Nat} (hv : v < 2 ^ T) : Small T (M.set k v) :=
  ⟨by simp [h.1], fun x hx => by rcases List.mem_or_eq_of_mem_set hx with h' | rfl; exact h.2 x h'; exact hv⟩

theorem Sound.set {T N : Nat} {l : List Sp} {M : List Nat} (h : Sound T N l M) (hM : M.length = 36) (hN : N ≤ 6) {i j : Nat} (hi : i < 6) (hj : j < 6) {v : Nat}
    (hv : ∀ X, Keeps T N l X → v.testBit (diff T X i j) = true) : Sound T N l (M.set (i * 6 + j) v) := fun X hX i' j' hi' hj' => by
  rw [at6_set hi hj hM v (by omega) (by omega)]
  split
  · rename_i e; rw [e.1, e.2]; exact hv X hX
  · exact h X hX i' j' hi' hj'

theorem Sub.set {M : List Nat} (hM : M.length = 36) {i j : Nat} (hi : i < 6) (hj : j < 6) {v : Nat} (hv : ∀ h, v.testBit h = true → (at6 M i j).testBit h = true) : Sub (M.set (i * 6 + j) v) M :=
  fun i' j' hi' hj' h hb => by
    rw [at6_set hi hj hM v hi' hj'] at hb
    split at hb
    · rename_i e; rw [e.1, e.2]; exact hv h hb
    · exact hb

theorem Diag.sub {N : Nat} {M M' : List Nat} (h : Diag N M) (hN : N ≤ 6) (hs : Sub M' M) : Diag N M' := fun i hi k hk => h i hi k (hs i i (by omega) (by omega) k hk)

theorem Tight.sub {T : Nat} {M M' : List Nat} {s : Sp} (h : Tight T M s) (h1 : s.src.toNat < 6) (h2 : s.dst.toNat < 6) (hs : Sub M' M) : Tight T M' s :=
  ⟨fun k hk hb => h.1 k hk (hs _ _ h1 h2 k hb), fun k hk hb => h.2 k hk (hs _ _ h2 h1 k hb)⟩

theorem Sub.trans {M M' M'' : List Nat} (h : Sub M'' M') (k : Sub M' M) : Sub M'' M := fun i j hi hj x hx => k i j hi hj x (h i j hi hj x hx)

theorem and_sub {a b : Nat} : ∀ h, (a &&& b).testBit h = true → a.testBit h = true := fun h hb => by
  rw [Nat.testBit_and, Bool.and_eq_true] at hb
  exact hb.1

/-- The hours from lo to hi. -/
theorem window_mem {T : Nat} {lo hi : Int} (hT0 : 0 < T) (hT : T ≤ 24) (h1 : lo ≤ hi) (h2 : hi ≤ lo + T - 1) {h : Nat} (hh : h < T) :
    (trn T (2 ^ (hi - lo + 1).toNat - 1) (lo % (T : Int)).toNat).testBit h = decide (((h : Int) - lo) % (T : Int) ≤ hi - lo) := by
  have hs : 2 ^ (hi - lo + 1).toNat - 1 < 2 ^ T := by
    have h3 : 2 ^ (hi - lo + 1).toNat ≤ 2 ^ T := Nat.pow_le_pow_right (by omega) (by omega)
    have h4 : 0 < 2 ^ (hi - lo + 1).toNat := Nat.two_pow_pos _
    omega
  rw [trn_mem hT0 hT hs hh, mask_mem]
  have h5 := Int.emod_nonneg ((h : Int) - lo) (show (T : Int) ≠ 0 by omega)
  rw [decide_eq_decide]
  omega

theorem window_back {T : Nat} {lo hi : Int} (hT0 : 0 < T) (hT : T ≤ 24) (h1 : lo ≤ hi) (h2 : hi ≤ lo + T - 1) {h : Nat} (hh : h < T) :
    (trn T (2 ^ (hi - lo + 1).toNat - 1) (-hi % (T : Int)).toNat).testBit h = decide ((-(h : Int) - lo) % (T : Int) ≤ hi - lo) := by
  have hs : 2 ^ (hi - lo + 1).toNat - 1 < 2 ^ T := by
    have h3 : 2 ^ (hi - lo + 1).toNat ≤ 2 ^ T := Nat.pow_le_pow_right (by omega) (by omega)
    have h4 : 0 < 2 ^ (hi - lo + 1).toNat := Nat.two_pow_pos _
    omega
  rw [trn_mem hT0 hT hs hh, mask_mem]
  have h5 := Int.emod_nonneg ((h : Int) - -hi) (show (T : Int) ≠ 0 by omega)
  have h6 := Int.emod_lt_of_pos ((h : Int) - -hi) (show (0 : Int) < T by omega)
  have h7 := Int.emod_nonneg (-(h : Int) - lo) (show (T : Int) ≠ 0 by omega)
  have h8 := Int.emod_lt_of_pos (-(h : Int) - lo) (show (0 : Int) < T by omega)
  have e1 := Int.emod_add_mul_ediv ((h : Int) - -hi) (T : Int)
  have e2 := Int.emod_add_mul_ediv (-(h : Int) - lo) (T : Int)
  have key : ((h : Int) - -hi) % (T : Int) ≤ hi - lo ↔ (-(h : Int) - lo) % (T : Int) ≤ hi - lo := by
    have go : ∀ x y : Int, 0 ≤ x → x < T → 0 ≤ y → y < T → (∃ q : Int, x + y = hi - lo + T * q) → (x ≤ hi - lo ↔ y ≤ hi - lo) := by
      intro x y hx0 hx hy0 hy ⟨q, hq⟩
      have hb : hi - lo < T := by omega
      have q0 : 0 ≤ q := by
        rcases Int.lt_or_le q 0 with h | h
        · have : (T : Int) * q ≤ (T : Int) * (-1) := Int.mul_le_mul_of_nonneg_left (by omega) (by omega)
          omega
        · exact h
      have q1 : q ≤ 1 := by
        rcases Int.lt_or_le 1 q with h | h
        · have : (T : Int) * 2 ≤ (T : Int) * q := Int.mul_le_mul_of_nonneg_left (by omega) (by omega)
          omega
        · exact h
      have : q = 0 ∨ q = 1 := by omega
      rcases this with rfl | rfl <;> omega
    refine go _ _ h5 h6 h7 h8 ⟨-(((h : Int) - -hi) / (T : Int) + (-(h : Int) - lo) / (T : Int)), ?_⟩
    rw [Int.mul_neg, Int.mul_add]
    omega
  rw [decide_eq_decide]
  omega

theorem diff_sub {T : Nat} (hT : 0 < T) (X : List Int) (i j : Nat) (c : Int) : ((diff T X i j : Int) - c) % (T : Int) = (hr X j - hr X i - c) % (T : Int) := by
  rw [diff_val hT, Int.sub_emod, Int.emod_emod_of_dvd _ (Int.dvd_refl _), ← Int.sub_emod]

theorem diff_neg {T : Nat} (hT : 0 < T) (X : List Int) (i j : Nat) (c : Int) : (-(diff T X i j : Int) - c) % (T : Int) = (hr X i - hr X j - c) % (T : Int) := by
  rw [diff_val hT]
  have e := Int.emod_add_mul_ediv (hr X j - hr X i) (T : Int)
  rw [show -((hr X j - hr X i) % (T : Int)) - c = (hr X i - hr X j - c) + (T : Int) * ((hr X j - hr X i) / (T : Int)) by omega, Int.add_mul_emod_self_left]

/-- One span's two steps. -/
theorem Sound.fwd {T N : Nat} {l : List Sp} {M : List Nat} (h : Sound T N l M) {s : Sp} (hs : s ∈ l) (hT0 : 0 < T) (hT : T ≤ 24) (h1 : s.lo ≤ s.hi) (h2 : s.hi ≤ s.lo + T - 1)
    (hi : s.src.toNat < N) (hj : s.dst.toNat < N) : ∀ X, Keeps T N l X →
    (at6 M s.src.toNat s.dst.toNat &&& trn T (2 ^ (s.hi - s.lo + 1).toNat - 1) (s.lo % (T : Int)).toNat).testBit (diff T X s.src.toNat s.dst.toNat) = true := fun X hX => by
  rw [Nat.testBit_and, h X hX _ _ hi hj, window_mem hT0 hT h1 h2 (diff_lt hT0 _ _ _), Bool.true_and, decide_eq_true_eq, diff_sub hT0]
  exact hX.span s hs

theorem Sound.bwd {T N : Nat} {l : List Sp} {M : List Nat} (h : Sound T N l M) {s : Sp} (hs : s ∈ l) (hT0 : 0 < T) (hT : T ≤ 24) (h1 : s.lo ≤ s.hi) (h2 : s.hi ≤ s.lo + T - 1)
    (hi : s.src.toNat < N) (hj : s.dst.toNat < N) : ∀ X, Keeps T N l X →
    (at6 M s.dst.toNat s.src.toNat &&& trn T (2 ^ (s.hi - s.lo + 1).toNat - 1) (-s.hi % (T : Int)).toNat).testBit (diff T X s.dst.toNat s.src.toNat) = true := fun X hX => by
  rw [Nat.testBit_and, h X hX _ _ hj hi, window_back hT0 hT h1 h2 (diff_lt hT0 _ _ _), Bool.true_and, decide_eq_true_eq, diff_neg hT0]
  exact hX.span s hs

/-- A third event. -/
def Joint (T : Nat) (M : List Nat) (i k j c : Nat) (b : Nat) : Prop := b < 2 ^ T ∧ ∀ g, g < T → (b.testBit g = true ↔ ∃ h, h < c ∧ (at6 M i k).testBit h = true ∧ (at6 M k j).testBit (((g : Int) - (h : Int)) % (T : Int)).toNat = true)

theorem Joint.sound {T N : Nat} {l : List Sp} {M : List Nat} {i k j b : Nat} (hb : Joint T M i k j T b) (h : Sound T N l M) (hT0 : 0 < T) (hi : i < N) (hk : k < N) (hj : j < N) :
    ∀ X, Keeps T N l X → (at6 M i j &&& b).testBit (diff T X i j) = true := fun X hX => by
  rw [Nat.testBit_and, h X hX _ _ hi hj, Bool.true_and]
  refine (hb.2 _ (diff_lt hT0 _ _ _)).2 ⟨diff T X i k, diff_lt hT0 _ _ _, h X hX _ _ hi hk, ?_⟩
  have e : ((((diff T X i j : Nat) : Int) - ((diff T X i k : Nat) : Int)) % (T : Int)).toNat = diff T X k j := by
    rw [diff_sub hT0, diff_val hT0 X i k]
    unfold diff
    have e1 := Int.emod_add_mul_ediv (hr X k - hr X i) (T : Int)
    rw [show hr X j - hr X i - (hr X k - hr X i) % (T : Int) = (hr X j - hr X k) + (T : Int) * ((hr X k - hr X i) / (T : Int)) by omega, Int.add_mul_emod_self_left]
  rw [e]
  exact h X hX _ _ hk hj

theorem Joint.zero {T : Nat} {M : List Nat} {i k j : Nat} : Joint T M i k j 0 0 := ⟨Nat.two_pow_pos _, fun g _ => by simp⟩

theorem Joint.skip {T : Nat} {M : List Nat} {i k j c b : Nat} (h : Joint T M i k j c b) (hc : (at6 M i k).testBit c = false) : Joint T M i k j (c + 1) b :=
  ⟨h.1, fun g hg => (h.2 g hg).trans ⟨fun ⟨x, h1, h2⟩ => ⟨x, by omega, h2⟩, fun ⟨x, h1, h2, h3⟩ => ⟨x, (by
    rcases Nat.lt_succ_iff_lt_or_eq.1 h1 with h4 | h4
    · exact h4
    · rw [h4, hc] at h2; exact absurd h2 (by simp)), h2, h3⟩⟩⟩

theorem Joint.take {T : Nat} {M : List Nat} {i k j c b : Nat} (h : Joint T M i k j c b) (hT0 : 0 < T) (hT : T ≤ 24) (hs : at6 M k j < 2 ^ T) (hc : (at6 M i k).testBit c = true) (hcT : c < T) :
    Joint T M i k j (c + 1) (b ||| trn T (at6 M k j) ((c : Int) % (T : Int)).toNat) :=
  ⟨Nat.or_lt_two_pow h.1 (trn_lt hT), fun g hg => by
    rw [Nat.testBit_or, trn_mem hT0 hT hs hg, Bool.or_eq_true, h.2 g hg]
    constructor
    · rintro (⟨x, h1, h2⟩ | h1)
      · exact ⟨x, by omega, h2⟩
      · exact ⟨c, by omega, hc, h1⟩
    · rintro ⟨x, h1, h2, h3⟩
      rcases Nat.lt_succ_iff_lt_or_eq.1 h1 with h4 | rfl
      · exact .inl ⟨x, h4, h2, h3⟩
      · exact .inr h3⟩

theorem sum_set {M : List Nat} {k v x : Nat} (hk : M[k]? = some x) (hv : v < x) : (M.set k v).sum < M.sum := by
  induction M generalizing k with
  | nil => cases hk
  | cons y M ih =>
    cases k with
    | zero => simp at hk; subst hk; simp; omega
    | succ k => simp at hk; have := ih hk; simp; omega

/-- What turn.apart hands back. -/
structure ApartOk (T N : Nat) (l : List Sp) (M : List Nat) : Prop where
  small : Small T M
  sound : Sound T N l M
  diag : Diag N M
  tight : ∀ s ∈ l, Tight T M s

/-- The first two loops: the cells before (a, c) are filled. -/
def InitM (T N : Nat) (M : List Nat) (a c : Nat) : Prop := Small T M ∧ ∀ i j, i < N → j < N → (i < a ∨ i = a ∧ j < c) → at6 M i j = if i = j then 1 else 2 ^ T - 1

theorem InitM.next {T N : Nat} {M : List Nat} {a : Nat} (h : InitM T N M a N) : InitM T N M (a + 1) 0 :=
  ⟨h.1, fun i j hi hj hc => h.2 i j hi hj (by omega)⟩

theorem InitM.ne {T N : Nat} {M : List Nat} {a c : Nat} (h : InitM T N M a c) (hN : N ≤ 6) (ha : a < N) (hc : c < N) (hne : a ≠ c) : InitM T N (M.set (a * 6 + c) (2 ^ T - 1)) a (c + 1) :=
  ⟨h.1.set _ (by have := Nat.two_pow_pos T; omega), fun i j hi hj hcc => by
    rw [at6_set (by omega) (by omega) h.1.1 _ (by omega) (by omega)]
    split
    · rename_i e; rw [if_neg (by omega)]
    · exact h.2 i j hi hj (by omega)⟩

theorem InitM.eq {T N : Nat} {M : List Nat} {a : Nat} (h : InitM T N M a a) (hN : N ≤ 6) (ha : a < N) (hT : 0 < T) : InitM T N ((M.set (a * 6 + a) (2 ^ T - 1)).set (a * 6 + a) 1) a (a + 1) :=
  ⟨(h.1.set _ (by have := Nat.two_pow_pos T; omega)).set _ (Nat.one_lt_two_pow (by omega)), fun i j hi hj hcc => by
    rw [at6_set (by omega) (by omega) (by simp [h.1.1]) _ (by omega) (by omega)]
    split
    · rename_i e; rw [if_pos (by omega)]
    · rename_i e
      rw [at6_set (by omega) (by omega) h.1.1 _ (by omega) (by omega), if_neg e]
      exact h.2 i j hi hj (by omega)⟩

theorem InitM.sound {T N : Nat} {M : List Nat} (h : InitM T N M N 0) (hT : 0 < T) (l : List Sp) : Sound T N l M := fun X hX i j hi hj => by
  rw [h.2 i j hi hj (.inl hi)]
  split
  · rename_i e
    subst e
    have : diff T X i i = 0 := by unfold diff; simp
    rw [this]
    rfl
  · rw [mask_mem]; simp [diff_lt hT]

theorem InitM.diag {T N : Nat} {M : List Nat} (h : InitM T N M N 0) : Diag N M := fun i hi k hk => by
  rw [h.2 i i hi hi (.inl hi), if_pos rfl] at hk
  rcases Nat.eq_zero_or_pos k with h0 | h0
  · exact h0
  · rw [Nat.testBit_lt_two_pow (Nat.one_lt_two_pow (by omega))] at hk; cases hk

/-- The third loop: the first k spans have been looked at. -/
structure SpanM (T N : Nat) (l : List Sp) (M : List Nat) (k : Nat) : Prop where
  small : Small T M
  sound : Sound T N l M
  diag : Diag N M
  tight : ∀ j (h : j < l.length), j < k → Tight T M l[j]

theorem SpanM.start {T N : Nat} {l : List Sp} {M : List Nat} (h : InitM T N M N 0) (hT : 0 < T) : SpanM T N l M 0 := ⟨h.1, h.sound hT l, h.diag, fun j _ h0 => absurd h0 (by omega)⟩

theorem SpanM.ok {T N : Nat} {l : List Sp} {M : List Nat} (h : SpanM T N l M l.length) : ApartOk T N l M :=
  ⟨h.small, h.sound, h.diag, fun s hs => by obtain ⟨j, hj, rfl⟩ := List.getElem_of_mem hs; exact h.tight j hj hj⟩

/-- The span k's first step. -/
def fwdM (T : Nat) (M : List Nat) (s : Sp) : List Nat := M.set (s.src.toNat * 6 + s.dst.toNat) (at6 M s.src.toNat s.dst.toNat &&& trn T (2 ^ (s.hi - s.lo + 1).toNat - 1) (s.lo % (T : Int)).toNat)

def bwdM (T : Nat) (M : List Nat) (s : Sp) : List Nat := M.set (s.dst.toNat * 6 + s.src.toNat) (at6 M s.dst.toNat s.src.toNat &&& trn T (2 ^ (s.hi - s.lo + 1).toNat - 1) (-s.hi % (T : Int)).toNat)

theorem SpanM.step {T N : Nat} {l : List Sp} {M : List Nat} {k : Nat} (h : SpanM T N l M k) (hk : k < l.length) (hT0 : 0 < T) (hT : T ≤ 24) (hN : N ≤ 6)
    (hok : ∀ s ∈ l, 0 ≤ s.src ∧ s.src < N ∧ 0 ≤ s.dst ∧ s.dst < N ∧ s.src ≠ s.dst ∧ -600 ≤ s.lo ∧ s.lo ≤ 600 ∧ s.lo ≤ s.hi ∧ s.hi ≤ s.lo + T - 1) :
    SpanM T N l (bwdM T (fwdM T M l[k]) l[k]) (k + 1) := by
  have hmem : l[k] ∈ l := List.getElem_mem hk
  obtain ⟨o1, o2, o3, o4, o5, o6, o7, o8, o9⟩ := hok _ hmem
  have hlen := h.small.1
  have hl1 : (fwdM T M l[k]).length = 36 := by unfold fwdM; simp [hlen]
  have i1 : l[k].src.toNat < 6 := by omega
  have i2 : l[k].dst.toNat < 6 := by omega
  have s1 : Sound T N l (fwdM T M l[k]) := h.sound.set hlen hN i1 i2 (h.sound.fwd hmem hT0 hT o8 (by omega) (by omega) (by omega))
  have s2 : Sound T N l (bwdM T (fwdM T M l[k]) l[k]) := s1.set hl1 hN i2 i1 (s1.bwd hmem hT0 hT o8 (by omega) (by omega) (by omega))
  have b1 : Sub (fwdM T M l[k]) M := Sub.set hlen i1 i2 and_sub
  have b2 : Sub (bwdM T (fwdM T M l[k]) l[k]) (fwdM T M l[k]) := Sub.set hl1 i2 i1 and_sub
  have sm1 : Small T (fwdM T M l[k]) := h.small.set _ (Nat.and_lt_two_pow _ (trn_lt hT))
  have sm2 : Small T (bwdM T (fwdM T M l[k]) l[k]) := sm1.set _ (Nat.and_lt_two_pow _ (trn_lt hT))
  refine ⟨sm2, s2, h.diag.sub hN (b2.trans b1), fun j hj hjk => ?_⟩
  rcases Nat.lt_succ_iff_lt_or_eq.1 hjk with h' | rfl
  · obtain ⟨p1, p2, p3, p4, _⟩ := hok _ (List.getElem_mem hj)
    exact (h.tight j hj h').sub (by omega) (by omega) (b2.trans b1)
  · constructor
    · intro x hx hb
      have hb' := b2 _ _ i1 i2 x hb
      unfold fwdM at hb'
      rw [at6_set i1 i2 hlen _ i1 i2, if_pos ⟨rfl, rfl⟩, Nat.testBit_and, window_mem hT0 hT o8 (by omega) hx, Bool.and_eq_true, decide_eq_true_eq] at hb'
      exact hb'.2
    · intro x hx hb
      unfold bwdM at hb
      rw [at6_set i2 i1 hl1 _ i2 i1, if_pos ⟨rfl, rfl⟩, Nat.testBit_and, window_back hT0 hT o8 (by omega) hx, Bool.and_eq_true, decide_eq_true_eq] at hb
      exact hb.2

/-- A step of the last loops. -/
theorem ApartOk.step {T N : Nat} {l : List Sp} {M : List Nat} (h : ApartOk T N l M) (hT0 : 0 < T) (hN : N ≤ 6) (hok : ∀ s ∈ l, 0 ≤ s.src ∧ s.src < N ∧ 0 ≤ s.dst ∧ s.dst < N) {i k j b : Nat} (hi : i < N) (hk : k < N) (hj : j < N)
    (hb : Joint T M i k j T b) : ApartOk T N l (M.set (i * 6 + j) (at6 M i j &&& b)) := by
  have b1 : Sub (M.set (i * 6 + j) (at6 M i j &&& b)) M := Sub.set h.small.1 (by omega) (by omega) and_sub
  refine ⟨h.small.set _ (Nat.and_lt_two_pow _ hb.1), h.sound.set h.small.1 hN (by omega) (by omega) (hb.sound h.sound hT0 hi hk hj), h.diag.sub hN b1, fun s hs => ?_⟩
  obtain ⟨p1, p2, p3, p4⟩ := hok s hs
  exact (h.tight s hs).sub (by omega) (by omega) b1

theorem and_ne_lt {a b : Nat} (ha : a < 4294967296) (hb : b < 4294967296) (h : a &&& (4294967295 - b) ≠ 0) : a &&& b < a := by
  refine Nat.lt_of_le_of_ne Nat.and_le_left fun e => h ?_
  apply Nat.eq_of_testBit_eq
  intro i
  rw [Nat.zero_testBit, Nat.testBit_and, show 4294967295 - b = 2 ^ 32 - (b + 1) by omega, Nat.testBit_two_pow_sub_succ (by omega)]
  have e2 : (a &&& b).testBit i = a.testBit i := by rw [e]
  rw [Nat.testBit_and] at e2
  cases ha2 : a.testBit i <;> cases hb2 : b.testBit i <;> simp_all

/-- Do hours begin with 0 and keep all spans? -/
def okPlan (T : Nat) (l : List Sp) (X : List Int) : Bool := decide (hr X 0 = 0 ∧ ∀ s ∈ l, (hr X s.dst.toNat - hr X s.src.toNat - s.lo) % (T : Int) ≤ s.hi - s.lo)

/-- The plans that begin with some hours, m hours more, in order. -/
def plansFrom (T : Nat) (l : List Sp) : Nat → List Int → List (List Int)
  | 0, X => if okPlan T l X then [X] else []
  | m + 1, X => (List.range T).flatMap fun (h : Nat) => plansFrom T l m (X ++ [(h : Int)])

/-- All plans. -/
def plans (T N : Nat) (l : List Sp) : List (List Int) := plansFrom T l N []

/-- Hours in the round. -/
def InRound (T : Nat) (X : List Int) : Prop := ∀ i, i < X.length → 0 ≤ hr X i ∧ hr X i < T

theorem hr_append_lt {X : List Int} {Y : List Int} {i : Nat} (h : i < X.length) : hr (X ++ Y) i = hr X i := by
  unfold hr
  rw [List.getD_eq_getElem?_getD, List.getD_eq_getElem?_getD, List.getElem?_append_left h]

theorem hr_append_new {X : List Int} {h : Int} : hr (X ++ [h]) X.length = h := by
  unfold hr
  simp [List.getD_eq_getElem?_getD]

theorem InRound.snoc {T : Nat} {X : List Int} (hX : InRound T X) {h : Nat} (hh : h < T) : InRound T (X ++ [(h : Int)]) := fun i hi => by
  simp at hi
  by_cases hlt : i < X.length
  · rw [hr_append_lt hlt]; exact hX i hlt
  · obtain rfl : i = X.length := by omega
    rw [hr_append_new]; omega

/-- What is in the list. -/
theorem mem_plansFrom {T : Nat} {l : List Sp} {m : Nat} : ∀ {X Y : List Int}, InRound T X → Y ∈ plansFrom T l m X → Y.length = X.length + m ∧ InRound T Y ∧ okPlan T l Y = true ∧ ∀ i, i < X.length → hr Y i = hr X i := by
  induction m with
  | zero =>
    intro X Y hX hY
    unfold plansFrom at hY
    split at hY
    · rename_i h
      obtain rfl : Y = X := by simpa using hY
      exact ⟨rfl, hX, h, fun _ _ => rfl⟩
    · cases hY
  | succ m ih =>
    intro X Y hX hY
    unfold plansFrom at hY
    obtain ⟨h, hh, hY⟩ := List.mem_flatMap.1 hY
    obtain ⟨h1, h2, h3, h4⟩ := ih (hX.snoc (List.mem_range.1 hh)) hY
    simp at h1 h4
    exact ⟨by omega, h2, h3, fun i hi => by rw [h4 i (by omega), hr_append_lt hi]⟩

theorem mem_plansFrom_of {T : Nat} {l : List Sp} {m : Nat} : ∀ {X Y : List Int}, Y.length = X.length + m → InRound T Y → okPlan T l Y = true → (∀ i, i < X.length → hr Y i = hr X i) → Y ∈ plansFrom T l m X := by
  induction m with
  | zero =>
    intro X Y h1 h2 h3 h4
    have e : Y = X := by
      apply List.ext_getElem (by omega)
      intro i hi hi'
      have := h4 i hi'
      unfold hr at this
      simpa [List.getD_eq_getElem?_getD, List.getElem?_eq_getElem hi, List.getElem?_eq_getElem hi'] using this
    subst e
    unfold plansFrom
    rw [if_pos h3]
    simp
  | succ m ih =>
    intro X Y h1 h2 h3 h4
    obtain ⟨r1, r2⟩ := h2 X.length (by omega)
    unfold plansFrom
    refine List.mem_flatMap.2 ⟨(hr Y X.length).toNat, List.mem_range.2 (by omega), ih (by simp; omega) h2 h3 fun i hi => ?_⟩
    simp at hi
    by_cases hlt : i < X.length
    · rw [hr_append_lt hlt, h4 i hlt]
    · obtain rfl : i = X.length := by omega
      rw [hr_append_new]; omega

theorem okPlan_keeps {T N : Nat} {l : List Sp} {Y : List Int} (h1 : Y.length = N) (h2 : InRound T Y) (h3 : okPlan T l Y = true) : Keeps T N l Y := by
  unfold okPlan at h3
  rw [decide_eq_true_eq] at h3
  exact ⟨h1, fun i hi => h2 i (by omega), h3.2⟩

theorem okPlan_zero {T : Nat} {l : List Sp} {Y : List Int} (h3 : okPlan T l Y = true) : hr Y 0 = 0 := by
  unfold okPlan at h3
  rw [decide_eq_true_eq] at h3
  exact h3.1

/-- What is left for the events from X.length on. -/
structure LeftOk (T N : Nat) (M : List Nat) (X : List Int) (L : List Nat) : Prop where
  len : L.length = 6
  small : ∀ x ∈ L, x < 2 ^ T
  bit : ∀ k, X.length ≤ k → k < N → ∀ h, h < T → ((L.getD k 0).testBit h = true ↔ (at6 M 0 k).testBit h = true ∧ ∀ j, j < X.length → (at6 M j k).testBit (((h : Int) - hr X j) % (T : Int)).toNat = true)

/-- The hours so far fit together. -/
structure GoodX (T : Nat) (M : List Nat) (X : List Int) : Prop where
  rng : InRound T X
  first : ∀ k, k < X.length → (at6 M 0 k).testBit (hr X k).toNat = true
  pair : ∀ j k, j < k → k < X.length → (at6 M j k).testBit (((hr X k) - hr X j) % (T : Int)).toNat = true

theorem GoodX.nil {T : Nat} {M : List Nat} : GoodX T M [] := ⟨fun i hi => by simp at hi, fun k hk => by simp at hk, fun j k _ hk => by simp at hk⟩

theorem LeftOk.start {T N : Nat} {l : List Sp} {M : List Nat} (h : ApartOk T N l M) (hN : N ≤ 6) : LeftOk T N M [] (M.take 6) :=
  ⟨by simp [h.small.1], fun x hx => h.small.2 x (List.mem_of_mem_take hx), fun k _ hk x hx => by
    have e : (M.take 6).getD k 0 = at6 M 0 k := by unfold at6; simp [List.getD_eq_getElem?_getD, show k < 6 by omega]
    rw [e]; simp⟩

theorem GoodX.snoc {T N : Nat} {M : List Nat} {X : List Int} {L : List Nat} (hX : GoodX T M X) (hL : LeftOk T N M X L) {h : Nat} (hh : h < T) (hn : X.length < N) (hb : (L.getD X.length 0).testBit h = true) :
    GoodX T M (X ++ [(h : Int)]) := by
  obtain ⟨b1, b2⟩ := (hL.bit X.length (Nat.le_refl _) hn h hh).1 hb
  refine ⟨hX.rng.snoc hh, fun k hk => ?_, fun j k hjk hk => ?_⟩
  · simp at hk
    by_cases hlt : k < X.length
    · rw [hr_append_lt hlt]; exact hX.first k hlt
    · obtain rfl : k = X.length := by omega
      rw [hr_append_new]; simpa using b1
  · simp at hk
    rw [hr_append_lt (show j < X.length by omega)]
    by_cases hlt : k < X.length
    · rw [hr_append_lt hlt]; exact hX.pair j k hjk hlt
    · obtain rfl : k = X.length := by omega
      rw [hr_append_new]; exact b2 j hjk

/-- Fully chosen: it is a plan. -/
theorem GoodX.ok {T N : Nat} {l : List Sp} {M : List Nat} {X : List Int} (hX : GoodX T M X) (hA : ApartOk T N l M) (hlen : X.length = N) (hN0 : 1 ≤ N) (hT0 : 0 < T)
    (hok : ∀ s ∈ l, 0 ≤ s.src ∧ s.src < N ∧ 0 ≤ s.dst ∧ s.dst < N ∧ s.src ≠ s.dst) : okPlan T l X = true := by
  unfold okPlan
  rw [decide_eq_true_eq]
  have h0 : (hr X 0).toNat = 0 := hA.diag 0 (by omega) _ (hX.first 0 (by omega))
  obtain ⟨r1, r2⟩ := hX.rng 0 (by omega)
  refine ⟨by omega, fun s hs => ?_⟩
  obtain ⟨o1, o2, o3, o4, o5⟩ := hok s hs
  obtain ⟨t1, t2⟩ := hA.tight s hs
  have key : ∀ i j : Nat, (((hr X i - hr X j) % (T : Int)).toNat : Int) = (hr X i - hr X j) % (T : Int) := fun i j => by
    have := Int.emod_nonneg (hr X i - hr X j) (show (T : Int) ≠ 0 by omega)
    omega
  have lt : ∀ i j : Nat, ((hr X i - hr X j) % (T : Int)).toNat < T := fun i j => by
    have h1 := Int.emod_nonneg (hr X i - hr X j) (show (T : Int) ≠ 0 by omega)
    have h2 := Int.emod_lt_of_pos (hr X i - hr X j) (show (0 : Int) < T by omega)
    omega
  by_cases hlt : s.src.toNat < s.dst.toNat
  · have h1 := t1 _ (lt _ _) (hX.pair s.src.toNat s.dst.toNat hlt (by omega))
    rw [key, Int.sub_emod, Int.emod_emod_of_dvd _ (Int.dvd_refl _), ← Int.sub_emod] at h1
    exact h1
  · have h1 := t2 _ (lt _ _) (hX.pair s.dst.toNat s.src.toNat (by omega) (by omega))
    rw [key] at h1
    have e := Int.emod_add_mul_ediv (hr X s.src.toNat - hr X s.dst.toNat) (T : Int)
    rw [show -((hr X s.src.toNat - hr X s.dst.toNat) % (T : Int)) - s.lo = (hr X s.dst.toNat - hr X s.src.toNat - s.lo) + (T : Int) * ((hr X s.src.toNat - hr X s.dst.toNat) / (T : Int)) by omega, Int.add_mul_emod_self_left] at h1
    exact h1

/-- Each plan that begins so is among what is left. -/
theorem LeftOk.covers {T N m : Nat} {l : List Sp} {M : List Nat} {X Y : List Int} {L : List Nat} (hL : LeftOk T N M X L) (hA : ApartOk T N l M) (hX : InRound T X) (hT0 : 0 < T) (hm : X.length + m = N)
    (hY : Y ∈ plansFrom T l m X) {k : Nat} (hk1 : X.length ≤ k) (hk : k < N) : (L.getD k 0).testBit (hr Y k).toNat = true := by
  obtain ⟨y1, y2, y3, y4⟩ := mem_plansFrom hX hY
  have hK := okPlan_keeps (N := N) (by omega) y2 y3
  have h0 := okPlan_zero y3
  obtain ⟨r1, r2⟩ := y2 k (by omega)
  refine (hL.bit k hk1 hk _ (by omega)).2 ⟨?_, fun j hj => ?_⟩
  · have h1 := hA.sound Y hK 0 k (by omega) hk
    unfold diff at h1
    rw [h0, Int.sub_zero, Int.emod_eq_of_lt r1 r2] at h1
    exact h1
  · have h1 := hA.sound Y hK j k (by omega) hk
    unfold diff at h1
    rw [← y4 j hj, show ((hr Y k).toNat : Int) = hr Y k by omega]
    exact h1

theorem prune_bit {T N m : Nat} {l : List Sp} {M : List Nat} {X : List Int} {L : List Nat} (hL : LeftOk T N M X L) (hA : ApartOk T N l M) (hX : InRound T X) (hT0 : 0 < T) (hm : X.length + (m + 1) = N)
    {h : Nat} (hh : h < T) (hb : (L.getD X.length 0).testBit h = false) : plansFrom T l m (X ++ [(h : Int)]) = [] := by
  rw [List.eq_nil_iff_forall_not_mem]
  intro Y hY
  have hY' : Y ∈ plansFrom T l (m + 1) X := by
    unfold plansFrom
    exact List.mem_flatMap.2 ⟨h, List.mem_range.2 hh, hY⟩
  have h1 := hL.covers hA hX hT0 hm hY' (Nat.le_refl _) (by omega)
  obtain ⟨_, _, _, y4⟩ := mem_plansFrom (hX.snoc hh) hY
  have h2 := y4 X.length (by simp)
  rw [h2, hr_append_new, Int.toNat_natCast, hb] at h1
  cases h1

theorem prune_zero {T N m : Nat} {l : List Sp} {M : List Nat} {X : List Int} {L : List Nat} (hL : LeftOk T N M X L) (hA : ApartOk T N l M) (hX : InRound T X) (hT0 : 0 < T) (hm : X.length + m = N)
    {k : Nat} (hk1 : X.length ≤ k) (hk : k < N) (hb : L.getD k 0 = 0) : plansFrom T l m X = [] := by
  rw [List.eq_nil_iff_forall_not_mem]
  intro Y hY
  have h1 := hL.covers hA hX hT0 hm hY hk1 hk
  rw [hb] at h1
  simp at h1

/-- While the sets of the later events are made smaller: those before k are done. -/
structure RestOk (T N : Nat) (M : List Nat) (X : List Int) (h : Nat) (L R : List Nat) (k : Nat) : Prop where
  len : R.length = 6
  small : ∀ x ∈ R, x < 2 ^ T
  done : ∀ g, X.length < g → g < k → R.getD g 0 = L.getD g 0 &&& trn T (at6 M X.length g) ((h : Int) % (T : Int)).toNat
  same : ∀ g, k ≤ g → R.getD g 0 = L.getD g 0

theorem RestOk.start {T N : Nat} {M : List Nat} {X : List Int} {h : Nat} {L : List Nat} (hL : LeftOk T N M X L) : RestOk T N M X h L L (X.length + 1) := ⟨hL.len, hL.small, fun g h1 h2 => absurd h1 (by omega), fun _ _ => rfl⟩

theorem RestOk.step {T N : Nat} {M : List Nat} {X : List Int} {h : Nat} {L R : List Nat} {k : Nat} (hR : RestOk T N M X h L R k) (hk : k < 6) (hT : T ≤ 24) :
    RestOk T N M X h L (R.set k (R.getD k 0 &&& trn T (at6 M X.length k) ((h : Int) % (T : Int)).toNat)) (k + 1) := by
  have hlen := hR.len
  refine ⟨by simp [hlen], fun x hx => ?_, fun g h1 h2 => ?_, fun g hg => ?_⟩
  · rcases List.mem_or_eq_of_mem_set hx with h' | rfl
    · exact hR.small x h'
    · exact Nat.and_lt_two_pow _ (trn_lt hT)
  · rw [List.getD_eq_getElem?_getD, List.getElem?_set]
    by_cases hgk : k = g
    · subst hgk
      rw [if_pos rfl, if_pos (by omega), Option.getD_some, hR.same k (Nat.le_refl _)]
    · rw [if_neg hgk, ← List.getD_eq_getElem?_getD]
      exact hR.done g h1 (by omega)
  · rw [List.getD_eq_getElem?_getD, List.getElem?_set, if_neg (by omega), ← List.getD_eq_getElem?_getD]
    exact hR.same g (by omega)

theorem RestOk.left {T N : Nat} {l : List Sp} {M : List Nat} {X : List Int} {h : Nat} {L R : List Nat} (hR : RestOk T N M X h L R N) (hL : LeftOk T N M X L) (hA : ApartOk T N l M) (hT0 : 0 < T) (hT : T ≤ 24) (hN : N ≤ 6) (hh : h < T) :
    LeftOk T N M (X ++ [(h : Int)]) R := by
  refine ⟨hR.len, hR.small, fun k hk1 hk g hg => ?_⟩
  simp at hk1
  rw [hR.done k (by omega) hk, Nat.testBit_and, Bool.and_eq_true, hL.bit k (by omega) hk g hg, trn_mem hT0 hT (hA.small.at (by omega) (by omega)) hg]
  constructor
  · rintro ⟨⟨b1, b2⟩, b3⟩
    refine ⟨b1, fun j hj => ?_⟩
    simp at hj
    by_cases hlt : j < X.length
    · rw [hr_append_lt hlt]; exact b2 j hlt
    · obtain rfl : j = X.length := by omega
      rw [hr_append_new]; exact b3
  · rintro ⟨b1, b2⟩
    refine ⟨⟨b1, fun j hj => ?_⟩, ?_⟩
    · have := b2 j (by simp; omega)
      rwa [hr_append_lt hj] at this
    · have := b2 X.length (by simp)
      rwa [hr_append_new] at this

/-- What has become 0 on the way: nothing begins so. -/
theorem RestOk.none {T N m : Nat} {l : List Sp} {M : List Nat} {X : List Int} {h : Nat} {L R : List Nat} {k : Nat} (hR : RestOk T N M X h L R (k + 1)) (hL : LeftOk T N M X L) (hA : ApartOk T N l M) (hX : InRound T X)
    (hT0 : 0 < T) (hT : T ≤ 24) (hN : N ≤ 6) (hh : h < T) (hk1 : X.length < k) (hk : k < N) (hm : X.length + (m + 1) = N) (h0 : R.getD k 0 = 0) : plansFrom T l m (X ++ [(h : Int)]) = [] := by
  rw [List.eq_nil_iff_forall_not_mem]
  intro Y hY
  have hY' : Y ∈ plansFrom T l (m + 1) X := by
    unfold plansFrom
    exact List.mem_flatMap.2 ⟨h, List.mem_range.2 hh, hY⟩
  have h1 := hL.covers hA hX hT0 hm hY' (show X.length ≤ k by omega) hk
  obtain ⟨y1, y2, y3, y4⟩ := mem_plansFrom (hX.snoc hh) hY
  simp at y1
  have hK := okPlan_keeps (N := N) (by omega) y2 y3
  obtain ⟨r1, r2⟩ := y2 k (by omega)
  have h2 : (R.getD k 0).testBit (hr Y k).toNat = true := by
    rw [hR.done k hk1 (by omega), Nat.testBit_and, h1, Bool.true_and, trn_mem hT0 hT (hA.small.at (by omega) (by omega)) (by omega)]
    have h3 := hA.sound Y hK X.length k (by omega) hk
    unfold diff at h3
    rw [y4 X.length (by simp), hr_append_new] at h3
    rw [show ((hr Y k).toNat : Int) = hr Y k by omega]
    exact h3
  rw [h0] at h2
  simp at h2

/-- A visitor: it is shown plan after plan until it answers true. -/
def runV {σ : Type} (step : σ → List Int → Bool × σ) : List (List Int) → σ → Bool × σ
  | [], s => (false, s)
  | X :: r, s => if (step s X).1 = true then step s X else runV step r (step s X).2

theorem runV_append {σ : Type} (step : σ → List Int → Bool × σ) (a b : List (List Int)) : ∀ s, runV step (a ++ b) s = if (runV step a s).1 = true then runV step a s else runV step b (runV step a s).2 := by
  induction a with
  | nil => intro s; simp [runV]
  | cons X a ih =>
    intro s
    simp only [List.cons_append, runV]
    by_cases h : (step s X).1 = true
    · simp [h]
    · simp only [h, ih]
      rfl
end Go.Proofs.Ytmmpdfcnenljhaa.Turn
