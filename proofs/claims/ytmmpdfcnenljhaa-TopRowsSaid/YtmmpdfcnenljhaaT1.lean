/- Rounds: regions with a tail, the small functions of the package turn. The conditions of each are its premises. -/
import Derived.Test.YtmmpdfcnenljhaaF9
import Derived.StillTail
import Derived.Laws.BitsAllLaws
set_option linter.unusedVariables false
namespace Go
section
variable {P : Program} {ops : Array Oper} {md : Region.Mode} {C : World → Prop}

/-- The head of a region, in whatever order: f operations are still to come, all of them before the tail, each one quiet in the class. -/
def headQ (P : Program) (md : Region.Mode) (ops : Array Oper) (C : World → Prop) (n : Nat) (L : Array Bool → Act → Prop) : Nat → Array Bool → Act → Prop
  | 0, listed, a => L listed a
  | f + 1, listed, a => Region.ready md ops listed ≠ [] ∧ ∀ i ∈ Region.ready md ops listed, i < n ∧ qOp P ops C i (headQ P md ops C n L f (listed.setIfInBounds i true)) a

theorem wpAny_of_headQ {n g : Nat} {L : Array Bool → Act → Prop} {Q' : Exit → Act → World → Prop} (hL : ∀ listed a w, C w → L listed a → wpAny P md ops Q' g listed a w) :
    ∀ (f : Nat) (listed : Array Bool) (a : Act) (w : World), C w → headQ P md ops C n L f listed a → wpAny P md ops Q' (f + g) listed a w := by
  intro f
  induction f with
  | zero => intro listed a w hw h; rw [Nat.zero_add]; exact hL _ _ _ hw h
  | succ f ih =>
    intro listed a w hw h
    rw [show f + 1 + g = (f + g) + 1 by omega]
    exact ⟨fun h0 => absurd h0 h.1, fun i hi => wpOp_of_qOp hw (fun a' w' hw' h' => ih _ a' w' hw' h') (h.2 i hi).2⟩

/-- What may come up now lies in the head, as long as something of the head is still to come. -/
theorem ready_in_head {n i : Nat} {listed : Array Bool} (hs : Region.sinkB md ops n = true) (hc : Region.chainB md ops n = true) (hn : n < ops.size) (inv : HeadInv md ops n listed)
    (hin : i < n) (hun : listed.getD i true = false) : ∀ j ∈ Region.ready md ops listed, j < n := fun j hj => by
  rcases Nat.lt_or_ge j n with h | h
  · exact h
  · exact absurd hj (tail_waits hs hc hn inv _ i rfl hin hun j h)

theorem headQ_first {n i : Nat} {oi : Oper} {v : Value} {L : Array Bool → Act → Prop} (hi : ops[i]? = some oi) (hsel : ∀ (j : Nat) (o : Oper) cs b, ops[j]? = some o → o.op ≠ .select cs b)
    (hs : Region.sinkB md ops n = true) (hc : Region.chainB md ops n = true) (hn : n < ops.size) (hin : i < n) (hdone : ∀ listed a, L listed a → ∀ j ∈ Region.ready md ops listed, n ≤ j) (f : Nat) :
    ∀ (listed : Array Bool) (a : Act), HeadInv md ops n listed →
      (∀ j oj, ops[j]? = some oj → j ≠ i → listed.getD j true = false → (∀ e ∈ oj.after, Region.binds md e = true → e.on ≠ i) → oi.apart ops oj = true) →
      i ∈ Region.ready md ops listed → YieldsIn P ops C oi v a →
      headQ P md ops C n L f (listed.setIfInBounds i true) (a.put oi.dst v) → headQ P md ops C n L (f + 1) listed a := by
  induction f with
  | zero =>
    intro listed a inv _ hr hy H
    refine ⟨List.ne_nil_of_mem hr, fun j hj => ?_⟩
    have hjn := ready_in_head hs hc hn inv hin (mem_ready.1 hr).1 j hj
    by_cases hji : j = i
    · subst hji; exact ⟨hjn, hy.qOp hi H⟩
    · have h1 := hdone _ _ H j (ready_mono hj hji)
      omega
  | succ f ih =>
    intro listed a inv hfree hr hy H
    refine ⟨List.ne_nil_of_mem hr, fun j hj => ?_⟩
    have hun := (mem_ready.1 hr).1
    have hjn := ready_in_head hs hc hn inv hin hun j hj
    refine ⟨hjn, ?_⟩
    by_cases hji : j = i
    · subst hji; exact hy.qOp hi H
    · obtain ⟨hjun, oj, hoj, hall⟩ := mem_ready.1 hj
      have hnot : ∀ e ∈ oj.after, Region.binds md e = true → e.on ≠ i := fun e he hb heq => by
        have h1 := hall e he hb
        rw [heq, getD_both hun] at h1
        cases h1
      have h2 := qOp_put hoj (hfree j oj hoj hji hjun hnot) (fun cs b => hsel i oi cs b hi) (fun cs b => hsel j oj cs b hoj) hy (H.2 j (ready_mono hj hji)).2
      refine qOp_mono (fun a' h3 => ih _ a' (inv.set hj hjn) (fun k ok hk hki hunk hno => hfree k ok hk hki ?_ hno) (ready_mono hr (Ne.symm hji)) h3.1 ?_) h2
      · by_cases hjk : j = k
        · subst hjk; exact hjun
        · rwa [getD_set_ne true hjk] at hunk
      · rw [Array.setIfInBounds_comm _ _ hji]
        exact h3.2

theorem headQ_lex {n g : Nat} {Lq : Act → Prop} (hsel : Region.noSelect ops = true) (hs : Region.sinkB md ops n = true) (hc : Region.chainB md ops n = true) (hn : n < ops.size) (l : List Oper) :
    ∀ (k : Nat) (listed : Array Bool) (a : Act), (∀ j, j < l.length → l[j]? = ops[k + j]?) → k + l.length = n → HeadInv md ops n listed →
    Region.lexHead md ops g l.length k listed = true → wpQuiet P ops C Lq l a → headQ P md ops C n (fun listed' a' => Region.seqB md ops g n listed' = true ∧ Lq a') l.length listed a := by
  induction l with
  | nil =>
    intro k listed a _ hk _ hB h
    obtain rfl : k = n := by simpa using hk
    exact ⟨by simpa [Region.lexHead] using hB, h⟩
  | cons o l ih =>
    intro k listed a hl hk inv hB h
    have h0 : ops[k]? = some o := by simpa using (hl 0 (by simp)).symm
    simp only [List.length_cons, Region.lexHead, Bool.and_eq_true] at hB
    simp only [List.length_cons] at hk
    have hr' : k ∈ Region.ready md ops listed := by simpa using hB.1.1
    have hq : qOp P ops C k (wpQuiet P ops C Lq l) a := by unfold qOp; simp only [h0]; exact h
    obtain ⟨v, hy, hK⟩ := yieldsIn_of_qOp h0 hq
    refine headQ_first h0 (Region.noSelect_spec hsel) hs hc hn (by omega) (fun listed' a' hL => seqB_ready hL.1) l.length listed a inv (Region.free_spec h0 hB.1.2) hr' hy ?_
    refine ih (k + 1) _ _ (fun j hj => ?_) (by omega) (inv.set hr' (by omega)) hB.2 hK
    have h1 := hl (j + 1) (by simp; omega)
    simpa [Nat.add_assoc, Nat.add_comm 1 j] using h1

/-- Head in any order, then the tail. -/
theorem wp_region_quiet_tail {id : Nat} {Q : Exit → Act → World → Prop} {a : Act} {w : World} {l : List Oper} (n : Nat) (hm : P.follows .mixedOrders = true) (hB : Region.lexTailB .any l.toArray n = true)
    (hC : C { w with drawn := w.drawn + 1 }) (h : wpQuiet P l.toArray C (fun a' => ∀ w', C w' → wpList P l.toArray Q (l.drop n) a' w') (l.take n) a) : (Code.region id l.toArray true).wp P Q a w := by
  simp only [Region.lexTailB, Bool.and_eq_true, decide_eq_true_eq] at hB
  obtain ⟨⟨⟨⟨hsel, hn⟩, hs⟩, hc⟩, hlex⟩ := hB
  have hn' : n < l.length := by simpa using hn
  have htl : (l.take n).length = n := by simp; omega
  have hdl : (l.drop n).length = l.toArray.size - n := by simp
  have inv0 : HeadInv .any l.toArray n (Array.replicate l.toArray.size false) :=
    ⟨by simp, fun j oj _ hl => (by rw [getD_replicate_false] at hl; cases hl), fun t _ ht => getD_in (by simpa using ht) (getD_replicate_false _ _)⟩
  have H := headQ_lex (C := C) (md := .any) (g := l.toArray.size - n) hsel hs hc hn (l.take n) 0 _ a (fun j hj => by
    have hj' : j < n := by rw [htl] at hj; exact hj
    simp [hj']) (by simpa using htl) inv0 (by rw [htl]; exact hlex) h
  refine wp_region_any hm ?_
  have H2 := wpAny_of_headQ (Q' := Q) (g := l.toArray.size - n) (fun listed a' w' hw' hL => by
    have h1 := wpAny_of_seq (md := .any) (Q' := Q) (l.drop n) n listed a' w' (fun j => by simp [List.getElem?_drop]) (by rw [hdl]; exact hL.1) (hL.2 w' hw')
    rwa [hdl] at h1) _ _ _ _ hC H
  rwa [htl, show n + (l.toArray.size - n) = l.toArray.size by omega] at H2
end

theorem wp_region_drewN_tail {P : Program} {id : Nat} {Q : Exit → Act → World → Prop} {a : Act} {w : World} {l : List Oper} (n : Nat) (hm : P.follows .mixedOrders = true) (hB : Region.lexTailB .any l.toArray n = true)
    (h : wpQuiet P l.toArray (fun w' => ∃ n, w' = w.drewN n) (fun a' => ∀ w', (∃ n, w' = w.drewN n) → wpList P l.toArray Q (l.drop n) a' w') (l.take n) a) : (Code.region id l.toArray true).wp P Q a w :=
  wp_region_quiet_tail (C := fun w' => ∃ n, w' = w.drewN n) n hm hB ⟨1, rfl⟩ h

theorem wp_region_grow_tail {P : Program} {id : Nat} {Q : Exit → Act → World → Prop} {a : Act} {w : World} {l : List Oper} (n : Nat) (hm : P.follows .mixedOrders = true) (hB : Region.lexTailB .any l.toArray n = true)
    (h : wpQuiet P l.toArray (fun w' => ∃ x, w' = w.grow x) (fun a' => ∀ w', (∃ x, w' = w.grow x) → wpList P l.toArray Q (l.drop n) a' w') (l.take n) a) : (Code.region id l.toArray true).wp P Q a w :=
  wp_region_quiet_tail (C := fun w' => ∃ x, w' = w.grow x) n hm hB (World.grow_drewN w 1) h
end Go
namespace Go.Proofs.Ytmmpdfcnenljhaa.Turn
open Go.RowKit
/-- A span. -/
structure Sp where
  src : Int
  dst : Int
  lo : Int
  hi : Int
  deriving DecidableEq, Inhabited

def Sp.val (s : Sp) : Value := .agg #[.int .i64 s.src, .int .i64 s.dst, .int .i64 s.lo, .int .i64 s.hi]

def Sp.I64 (s : Sp) : Prop := Ytmmpdfcnenljhaa.I64 s.src ∧ Ytmmpdfcnenljhaa.I64 s.dst ∧ Ytmmpdfcnenljhaa.I64 s.lo ∧ Ytmmpdfcnenljhaa.I64 s.hi

/-- The cells of a list of spans. -/
def SpansAt (w : World) (b off : Nat) (l : List Sp) : Prop := ∀ k (h : k < l.length),
  w.cell? ⟨b, off + k * 4, none⟩ = some (.int .i64 l[k].src) ∧ w.cell? ⟨b, off + k * 4 + 1, none⟩ = some (.int .i64 l[k].dst) ∧
  w.cell? ⟨b, off + k * 4 + 2, none⟩ = some (.int .i64 l[k].lo) ∧ w.cell? ⟨b, off + k * 4 + 3, none⟩ = some (.int .i64 l[k].hi)

theorem mod_plain (n t : Int) (ht : 1 ≤ t) : (n.tmod t + t) % t = n % t := by
  rw [Int.add_emod_right, Int.tmod_eq_emod]
  have e : ((t.natAbs : Int)) = t := by omega
  split
  · simp
  · rw [e, Int.sub_emod_right]; exact Int.emod_emod_of_dvd n (Int.dvd_refl t)

theorem modulo_any (n t : Int) (b off : Nat) (w : World) (ht : 1 ≤ t) (ht2 : t ≤ 1000) (h0 : -1000000 ≤ n) (h1 : n ≤ 1000000)
   (hc : w.cell? ⟨b, off, none⟩ = some (.int .i64 t)) :
    Calls Try.prog 107 #[.pointer (some ⟨b, off, none⟩), .int .i64 n] w fun e w' => e = .returned (.int .i64 (n % t)) ∧ ∃ m, w' = w.drewN m := by
  have h2 : -t < n.tmod t := Int.lt_tmod_of_pos n (by omega)
  have h3 : n.tmod t < t := Int.tmod_lt_of_pos n (by omega)
  go_enter Try.func107, Try.ntmps107
  go_wp2
  go_quiet (fail)
  go_wp2
  go_ret
  exact ⟨ret_int (mod_plain n t ht), nq, rfl⟩

def Sp.bad (t n : Int) (s : Sp) : Prop := s.src < 0 ∨ n ≤ s.src ∨ s.dst < 0 ∨ n ≤ s.dst ∨ s.src = s.dst ∨ s.lo < -600 ∨ 600 < s.lo ∨ s.hi < s.lo ∨ s.lo + t - 1 < s.hi

instance (t n : Int) (s : Sp) : Decidable (s.bad t n) := by unfold Sp.bad; infer_instance

/-- The error of a round, events and spans. -/
def spansE (t n : Int) (l : List Sp) : Int :=
  if t < 1 ∨ 24 < t ∨ n < 1 ∨ 6 < n then 2 else if 20 < l.length then 3 else if ∃ s ∈ l, s.bad t n then 2 else 0

theorem spansE_bad {t n : Int} {l : List Sp} (ht : 1 ≤ t) (ht2 : t ≤ 24) (hn : 1 ≤ n) (hn2 : n ≤ 6) (hl : l.length ≤ 20) {k : Nat} (hk : k < l.length) (h : l[k].bad t n) : 2 = spansE t n l := by
  unfold spansE
  rw [if_neg (by omega), if_neg (by omega), if_pos ⟨_, List.getElem_mem hk, h⟩]

theorem spansE_good {t n : Int} {l : List Sp} (ht : 1 ≤ t) (ht2 : t ≤ 24) (hn : 1 ≤ n) (hn2 : n ≤ 6) (hl : l.length ≤ 20) (h : ∀ j (h : j < l.length), ¬ l[j].bad t n) : 0 = spansE t n l := by
  unfold spansE
  rw [if_neg (by omega), if_neg (by omega), if_neg]
  rintro ⟨s, hs, hb⟩
  obtain ⟨j, hj, rfl⟩ := List.getElem_of_mem hs
  exact h j hj hb

/-- What a valid round says. -/
structure Valid (t n : Int) (l : List Sp) : Prop where
  t1 : 1 ≤ t
  t2 : t ≤ 24
  n1 : 1 ≤ n
  n2 : n ≤ 6
  len : l.length ≤ 20
  ok : ∀ s ∈ l, 0 ≤ s.src ∧ s.src < n ∧ 0 ≤ s.dst ∧ s.dst < n ∧ s.src ≠ s.dst ∧ -600 ≤ s.lo ∧ s.lo ≤ 600 ∧ s.lo ≤ s.hi ∧ s.hi ≤ s.lo + t - 1

theorem valid_of {t n : Int} {l : List Sp} (h : spansE t n l = 0) : Valid t n l := by
  unfold spansE at h
  by_cases h1 : t < 1 ∨ 24 < t ∨ n < 1 ∨ 6 < n
  · rw [if_pos h1] at h; cases h
  · rw [if_neg h1] at h
    by_cases h2 : 20 < l.length
    · rw [if_pos h2] at h; cases h
    · rw [if_neg h2] at h
      by_cases h3 : ∃ s ∈ l, s.bad t n
      · rw [if_pos h3] at h; cases h
      · refine ⟨by omega, by omega, by omega, by omega, by omega, fun s hs => ?_⟩
        have h4 : ¬ s.bad t n := fun hb => h3 ⟨s, hs, hb⟩
        unfold Sp.bad at h4
        omega

/-- A plan in memory: a round, how many events, the spans. -/
def PlanAt (w : World) (p : Nat) (t n : Int) (v : Value) : Prop :=
  w.cell? ⟨p, 0, none⟩ = some (.int .i64 t) ∧ w.cell? ⟨p, 1, none⟩ = some (.int .i64 n) ∧ w.cell? ⟨p, 2, none⟩ = some v

theorem PlanAt.grow {w : World} {p : Nat} {t n : Int} {v : Value} (h : PlanAt w p t n v) (x : Ext) : PlanAt (w.grow x) p t n v :=
  ⟨World.grow_cell h.1 x, World.grow_cell h.2.1 x, World.grow_cell h.2.2 x⟩

/-- What turn.of leaves: an error, or a new plan. -/
def OfPost (t n : Int) (l : List Sp) (v : Value) (w : World) (e : Ending) (w' : World) : Prop :=
  (∃ x, w' = w.grow x) ∧ ((spansE t n l ≠ 0 ∧ e = .returned (.tuple #[.pointer none, .int .i64 (spansE t n l)])) ∨
    (spansE t n l = 0 ∧ ∃ p, e = .returned (.tuple #[.pointer (some ⟨p, 0, none⟩), .int .i64 0]) ∧ PlanAt w' p t n v ∧ w.heap.size ≤ p))

theorem ofPost_err {t n : Int} {l : List Sp} {v : Value} {w w' : World} {c : Int} (h : c = spansE t n l) (h0 : c ≠ 0) (hw : ∃ x, w' = w.grow x) :
    OfPost t n l v w (.returned (.tuple #[.pointer none, .int .i64 c])) w' := ⟨hw, .inl (by subst h; exact ⟨h0, rfl⟩)⟩

set_option maxHeartbeats 1000000 in
theorem of_loop (t n : Int) (l : List Sp) (a : Option Addr) (cap : Nat) (w : World) (b off : Nat) (hs : SpansAt w b off l) (ha : l = [] ∨ a = some ⟨b, off, none⟩)
    (ht : 1 ≤ t) (ht2 : t ≤ 24) (hn : 1 ≤ n) (hn2 : n ≤ 6) (hl : l.length ≤ 20) :
    Calls Try.prog 62 #[.int .i64 t, .int .i64 n, .slice a l.length cap] w (OfPost t n l (.slice a l.length cap) w) := by
  have h1 : decide (t < 1) = false := by simp; omega
  have h2 : decide (24 < t) = false := by simp; omega
  have h3 : decide (n < 1) = false := by simp; omega
  have h4 : decide (6 < n) = false := by simp; omega
  have h5 : decide (20 < (l.length : Int)) = false := by simp; omega
  go_enter Try.func62, Try.ntmps62
  go_wp2
  go_loopw [31] (fun i wr => ∃ k : Nat, i = .int .i64 k ∧ k ≤ l.length ∧ (∀ j (h : j < l.length), j < k → ¬ l[j].bad t n) ∧ ∃ x, wr = w.grow x) (fun i _ => l.length - (intOf i).toNat)
  case atStart => exact ⟨0, rfl, by omega, by omega, w.grow_refl⟩
  case round =>
    obtain ⟨k, rfl, hk, hbad, x, rfl⟩ := hrel
    by_cases hlt : k < l.length
    · have hne : a = some ⟨b, off, none⟩ := ha.resolve_left (by intro h; simp [h] at hlt)
      subst hne
      obtain ⟨c0, c1, c2, c3⟩ := hs k hlt
      have g0 := World.grow_cell c0 x; have g1 := World.grow_cell c1 x; have g2 := World.grow_cell c2 x; have g3 := World.grow_cell c3 x
      clear c0 c1 c2 c3 ha hs
      have HB := Lib.hid hbad; clear hbad
      go_wp2
      iterate 9
        rotate_left 1
      · go_roundw
        case rel => exact ⟨k + 1, by go_num, by omega, fun j h hj => by
          rcases Nat.lt_succ_iff_lt_or_eq.1 hj with h' | rfl
          · exact HB.out j h h'
          · unfold Sp.bad; omega, grow_alloc _ _ _⟩
        case measure => simp [intOf]; omega
      all_goals
        go_ret2
        exact ofPost_err (spansE_bad ht ht2 hn hn2 hl hlt (by unfold Sp.bad; omega)) (by omega) (grow_alloc _ _ _)
    · go_wp2
      go_ret2
      exact ⟨grow_alloc _ _ _, .inr ⟨(spansE_good ht ht2 hn hn2 hl (fun j h => hbad j h (by omega))).symm, _, rfl, ⟨by go_simp, by go_simp, by go_simp⟩, (World.grow_below w x).size⟩⟩

theorem of_any (t n : Int) (l : List Sp) (a : Option Addr) (cap : Nat) (w : World) (b off : Nat) (hs : SpansAt w b off l) (ha : l = [] ∨ a = some ⟨b, off, none⟩) :
    Calls Try.prog 62 #[.int .i64 t, .int .i64 n, .slice a l.length cap] w (OfPost t n l (.slice a l.length cap) w) := by
  by_cases h : t < 1 ∨ 24 < t ∨ n < 1 ∨ 6 < n
  · have he := Lib.hid (show 2 = spansE t n l by unfold spansE; rw [if_pos h])
    go_enter Try.func62, Try.ntmps62
    go_wp2
    all_goals first
      | (go_ret2; exact ofPost_err he.out (by omega) w.grow_refl)
      | (exfalso; omega)
  · by_cases hl : l.length ≤ 20
    · exact of_loop t n l a cap w b off hs ha (by omega) (by omega) (by omega) (by omega) hl
    · have he := Lib.hid (show 3 = spansE t n l by unfold spansE; rw [if_neg h, if_pos (by omega)])
      have h1 : decide (t < 1) = false := by simp; omega
      have h2 : decide (24 < t) = false := by simp; omega
      have h3 : decide (n < 1) = false := by simp; omega
      have h4 : decide (6 < n) = false := by simp; omega
      have h5 : decide (20 < (l.length : Int)) = true := by simp; omega
      go_enter Try.func62, Try.ntmps62
      go_wp2
      go_ret2
      exact ofPost_err he.out (by omega) w.grow_refl

/-- A set of hours, each so much later. -/
def trn (t s k : Nat) : Nat := ((s * 2 ^ k % 4294967296) ||| (s / 2 ^ (t - k))) &&& ((2 ^ t - 1) % 4294967296)

theorem testBit_ge {s t h : Nat} (hs : s < 2 ^ t) (h1 : t ≤ h) : s.testBit h = false :=
  Nat.testBit_lt_two_pow (Nat.lt_of_lt_of_le hs (Nat.pow_le_pow_right (by omega) h1))

theorem pow_small {t : Nat} (ht : t ≤ 24) : 2 ^ t ≤ 16777216 := by
  have : 2 ^ t ≤ 2 ^ 24 := Nat.pow_le_pow_right (by omega) ht
  simpa using this

theorem trn_bit {t s k : Nat} (ht : t ≤ 24) (hk : k < t) (hs : s < 2 ^ t) (h : Nat) : (trn t s k).testBit h = (decide (h < t) && s.testBit ((h + t - k) % t)) := by
  have hp := pow_small ht
  unfold trn
  rw [Nat.mod_eq_of_lt (a := 2 ^ t - 1) (by omega), Nat.testBit_and, Nat.testBit_or, Nat.testBit_two_pow_sub_one]
  by_cases h1 : h < t
  · have e1 : (s * 2 ^ k % 4294967296).testBit h = (decide (k ≤ h) && s.testBit (h - k)) := by
      rw [show (4294967296 : Nat) = 2 ^ 32 from rfl, Nat.testBit_mod_two_pow, Nat.testBit_mul_two_pow]
      have : h < 32 := by omega
      simp [this]
    rw [e1, Nat.testBit_div_two_pow]
    by_cases h2 : k ≤ h
    · have e2 : (h + t - k) % t = h - k := by
        rw [show h + t - k = (h - k) + t by omega, Nat.add_mod_right, Nat.mod_eq_of_lt (by omega)]
      have e3 : s.testBit (h + (t - k)) = false := testBit_ge hs (by omega)
      simp [h1, h2, e2, e3]
    · have e2 : (h + t - k) % t = h + (t - k) := by
        rw [show h + t - k = h + (t - k) by omega, Nat.mod_eq_of_lt (by omega)]
      simp [h1, h2, e2]
  · simp [h1]

theorem trn_lt {t s k : Nat} (ht : t ≤ 24) : trn t s k < 2 ^ t := by
  have hp := pow_small ht
  have h0 : 0 < 2 ^ t := Nat.two_pow_pos t
  unfold trn
  rw [Nat.mod_eq_of_lt (a := 2 ^ t - 1) (by omega)]
  exact Nat.lt_of_le_of_lt Nat.and_le_right (by omega)

/-- The hour as an integer. -/
theorem hour_mod {t h : Nat} {d : Int} (ht : 0 < t) (hh : h < t) : (h + t - (d % (t : Int)).toNat) % t = (((h : Int) - d) % (t : Int)).toNat := by
  have h1 := Int.emod_nonneg d (show (t : Int) ≠ 0 by omega)
  have h2 := Int.emod_lt_of_pos d (show (0 : Int) < t by omega)
  have e : (((h + t - (d % (t : Int)).toNat) % t : Nat) : Int) = ((h : Int) - d) % (t : Int) := by
    rw [Int.natCast_emod, Int.natCast_sub (by omega), Int.natCast_add, Int.toNat_of_nonneg h1]
    rw [show (h : Int) + t - d % (t : Int) = (h - d % (t : Int)) + t by omega, Int.add_emod_right, Int.sub_emod, Int.emod_emod_of_dvd _ (Int.dvd_refl _), ← Int.sub_emod]
  omega

theorem trn_mem {t s h : Nat} {d : Int} (ht0 : 0 < t) (ht : t ≤ 24) (hs : s < 2 ^ t) (hh : h < t) :
    (trn t s (d % (t : Int)).toNat).testBit h = s.testBit (((h : Int) - d) % (t : Int)).toNat := by
  have h1 := Int.emod_nonneg d (show (t : Int) ≠ 0 by omega)
  have h2 := Int.emod_lt_of_pos d (show (0 : Int) < t by omega)
  rw [trn_bit ht (by omega) hs, hour_mod ht0 hh]
  simp [hh]

theorem mask_mem (m h : Nat) : (2 ^ m - 1).testBit h = decide (h < m) := by rw [Nat.testBit_two_pow_sub_one]

theorem trn_val {T s : Nat} {d : Int} (ht0 : 1 ≤ T) (ht : T ≤ 24) (hs : s < 33554432) :
    bits .and .u32 (bits .or .u32 ((s : Int) * 2 ^ (d % (T : Int)).toNat % 4294967296) ((s : Int) / 2 ^ ((T : Int) - d % (T : Int)).toNat)) ((2 ^ T - 1) % 4294967296) = ((trn T s (d % (T : Int)).toNat : Nat) : Int) := by
  have h1 := Int.emod_nonneg d (show (T : Int) ≠ 0 by omega)
  have h2 := Int.emod_lt_of_pos d (show (0 : Int) < T by omega)
  obtain ⟨k, hk⟩ := Int.eq_ofNat_of_zero_le h1
  rw [hk] at h2 ⊢
  have hp := pow_small ht
  have h0 : 0 < 2 ^ T := Nat.two_pow_pos T
  rw [show ((T : Int) - (k : Int)).toNat = T - k by omega, Int.toNat_natCast]
  have e1 : (s : Int) * 2 ^ k % 4294967296 = ((s * 2 ^ k % 4294967296 : Nat) : Int) := by simp
  have e2 : (s : Int) / 2 ^ (T - k) = ((s / 2 ^ (T - k) : Nat) : Int) := by simp
  have e3 : ((2 : Int) ^ T - 1) % 4294967296 = (((2 ^ T - 1) % 4294967296 : Nat) : Int) := by
    rw [Int.natCast_emod, Int.natCast_sub (by omega)]; simp
  have b1 : s * 2 ^ k % 4294967296 < 4294967296 := Nat.mod_lt _ (by omega)
  have b2 : s / 2 ^ (T - k) < 4294967296 := Nat.lt_of_le_of_lt (Nat.div_le_self _ _) (by omega)
  rw [e1, e2, e3, u32_or_nat _ _ b1 b2, u32_and_nat _ _ (Nat.or_lt_two_pow (n := 32) b1 b2) (Nat.mod_lt _ (by omega))]
  rfl

theorem turned_any (T s : Nat) (d : Int) (b : Nat) (w : World) (ht : 1 ≤ T) (ht2 : T ≤ 24) (h0 : -100000 ≤ d) (h1 : d ≤ 100000) (hs : s < 33554432)
   (hc : w.cell? ⟨b, 0, none⟩ = some (.int .i64 T)) :
    Calls Try.prog 96 #[.pointer (some ⟨b, 0, none⟩), .int .u32 s, .int .i64 d] w fun e w' => e = .returned (.int .u32 (trn T s (d % (T : Int)).toNat : Nat)) ∧ ∃ m, w' = w.drewN m := by
  have h4 := Int.emod_nonneg d (show (T : Int) ≠ 0 by omega)
  have h5 := Int.emod_lt_of_pos d (show 0 < (T : Int) by omega)
  go_enter Try.func96, Try.ntmps96
  go_wp2_with fail
  refine (modulo_any d T b 0 w (by omega) (by omega) (by omega) (by omega) hc).mono ?_
  rintro e w' ⟨rfl, m, rfl⟩
  go_wp2
  go_quiet (fail)
  go_wp2
  go_ret
  exact ⟨ret_int (trn_val ht ht2 hs), m + nq, World.drewN_drewN _ _ _⟩
end Go.Proofs.Ytmmpdfcnenljhaa.Turn
