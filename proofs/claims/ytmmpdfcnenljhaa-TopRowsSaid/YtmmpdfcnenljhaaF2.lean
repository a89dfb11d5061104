/- How many groups of posts hang together by a set of fences, of the program and of the reference, walked. Their conditions are their premises. -/
import Derived.Test.YtmmpdfcnenljhaaF1
set_option linter.unusedVariables false
namespace Go.Proofs.Ytmmpdfcnenljhaa
open Go.RowKit

/-- The number at a place of a list. -/
def hr (X : List Int) (i : Nat) : Int := X.getD i 0

def initG (N : Nat) : List Int := (List.range N).map fun (i : Nat) => (i : Int)

def mergeG (G : List Int) (old new : Int) : List Int := G.map fun x => if x = old then new else x

/-- One span's step: the label of its end becomes that of its beginning, or the other way round. -/
def grpStep (back : Bool) (st : List Int × Int) (s : Fe) : List Int × Int :=
  if hr st.1 s.a.toNat = hr st.1 s.b.toNat then st
  else (if back then mergeG st.1 (hr st.1 s.a.toNat) (hr st.1 s.b.toNat) else mergeG st.1 (hr st.1 s.b.toNat) (hr st.1 s.a.toNat), st.2 - 1)

theorem hr_lt {G : List Int} {i : Nat} (h : i < G.length) : hr G i = G[i] := by unfold hr; rw [List.getD_eq_getElem?_getD, List.getElem?_eq_getElem h]; rfl

theorem initG_len (N : Nat) : (initG N).length = N := by simp [initG]

theorem initG_hr {N i : Nat} (h : i < N) : hr (initG N) i = i := by rw [hr_lt (by rw [initG_len]; exact h)]; simp [initG]

theorem mergeG_len (G : List Int) (a b : Int) : (mergeG G a b).length = G.length := by simp [mergeG]

theorem mergeG_hr {G : List Int} {a b : Int} {i : Nat} (h : i < G.length) : hr (mergeG G a b) i = if hr G i = a then b else hr G i := by
  rw [hr_lt (by rw [mergeG_len]; exact h), hr_lt h]; simp [mergeG]

theorem ext_hr {G H : List Int} (h : G.length = H.length) (h2 : ∀ i, i < G.length → hr G i = hr H i) : G = H :=
  List.ext_getElem h fun i h1 h3 => by have := h2 i h1; rwa [hr_lt h1, hr_lt h3] at this

/-- The same events together. -/
def SameK (G H : List Int) : Prop := G.length = H.length ∧ ∀ i j, i < G.length → j < G.length → (hr G i = hr G j ↔ hr H i = hr H j)

theorem SameK.step {G H : List Int} {m : Int} (h : SameK G H) {s : Fe} (h1 : s.a.toNat < G.length) (h2 : s.b.toNat < G.length) :
    SameK (grpStep true (G, m) s).1 (grpStep false (H, m) s).1 ∧ (grpStep true (G, m) s).2 = (grpStep false (H, m) s).2 := by
  obtain ⟨hl, hk⟩ := h
  unfold grpStep
  dsimp only
  by_cases he : hr G s.a.toNat = hr G s.b.toNat
  · rw [if_pos he, if_pos ((hk _ _ h1 h2).1 he)]
    exact ⟨⟨hl, hk⟩, rfl⟩
  · rw [if_neg he, if_neg (fun h => he ((hk _ _ h1 h2).2 h))]
    refine ⟨⟨by simp [mergeG_len, hl], fun i j hi hj => ?_⟩, rfl⟩
    simp only [if_true, mergeG_len] at hi hj
    simp only [if_true, Bool.false_eq_true, if_false]
    rw [mergeG_hr hi, mergeG_hr hj, mergeG_hr (by omega), mergeG_hr (by omega)]
    have a1 := hk i s.a.toNat hi h1
    have a2 := hk i s.b.toNat hi h2
    have a3 := hk j s.a.toNat hj h1
    have a4 := hk j s.b.toNat hj h2
    have a5 := hk i j hi hj
    have a6 := hk _ _ h1 h2
    by_cases b1 : hr G i = hr G s.a.toNat <;> by_cases b2 : hr G i = hr G s.b.toNat <;> by_cases b3 : hr G j = hr G s.a.toNat <;> by_cases b4 : hr G j = hr G s.b.toNat <;>
      simp only [b1, b2, b3, b4, a1.1, a2.1, a3.1, a4.1, if_true, if_false] <;> (try simp_all) <;> (try omega)

theorem grpStep_len (b : Bool) (st : List Int × Int) (s : Fe) : (grpStep b st s).1.length = st.1.length := by
  unfold grpStep
  split
  · rfl
  · cases b <;> simp [mergeG_len]

theorem madeCells_one (v : Value) (n : Nat) : madeCells #[v] n = Array.replicate n v := by
  apply Array.ext
  · simp [madeCells]
  · intro i h1 h2
    simp [madeCells, Nat.mod_one]

theorem hr_set {G : List Int} {i j : Nat} {v : Int} (hi : i < G.length) (hj : j < G.length) : hr (G.set i v) j = if i = j then v else hr G j := by
  rw [hr_lt (by simpa using hj), hr_lt hj, List.getElem_set]

/-- A merge under way: the first i labels have been looked at. -/
structure MergeTo (G G' : List Int) (old new : Int) (i : Nat) : Prop where
  len : G'.length = G.length
  done : ∀ j, j < i → j < G.length → hr G' j = if hr G j = old then new else hr G j
  rest : ∀ j, i ≤ j → j < G.length → hr G' j = hr G j

theorem MergeTo.start {G : List Int} {old new : Int} : MergeTo G G old new 0 := ⟨rfl, fun j h => by omega, fun _ _ _ => rfl⟩

theorem MergeTo.skip {G G' : List Int} {old new : Int} {i : Nat} (h : MergeTo G G' old new i) (hi : i < G.length) (hn : hr G i ≠ old) : MergeTo G G' old new (i + 1) :=
  ⟨h.len, fun j hj hl => by
    rcases Nat.lt_succ_iff_lt_or_eq.1 hj with h' | rfl
    · exact h.done j h' hl
    · rw [h.rest j (Nat.le_refl _) hl, if_neg hn], fun j hj hl => h.rest j (by omega) hl⟩

theorem MergeTo.put {G G' : List Int} {old new : Int} {i : Nat} (h : MergeTo G G' old new i) (hi : i < G.length) (hn : hr G i = old) : MergeTo G (G'.set i new) old new (i + 1) :=
  ⟨by simp [h.len], fun j hj hl => by
    rw [hr_set (by rw [h.len]; exact hi) (by rw [h.len]; exact hl)]
    rcases Nat.lt_succ_iff_lt_or_eq.1 hj with h' | rfl
    · rw [if_neg (by omega)]; exact h.done j h' hl
    · rw [if_pos rfl, if_pos hn], fun j hj hl => by
    rw [hr_set (by rw [h.len]; exact hi) (by rw [h.len]; exact hl), if_neg (by omega)]
    exact h.rest j (by omega) hl⟩

theorem MergeTo.fin {G G' : List Int} {old new : Int} {i : Nat} (h : MergeTo G G' old new i) (hi : G.length ≤ i) : G' = mergeG G old new :=
  ext_hr (by rw [h.len, mergeG_len]) fun j hj => by
    have hj' : j < G.length := by rw [← h.len]; exact hj
    rw [h.done j (by omega) hj', mergeG_hr hj']

theorem _root_.Go.Blk.int_at {w : World} {B : Nat} {e : TypeId} {G : List Int} (h : Blk w B e (G.map (Value.int .i64))) {i : Nat} (hi : i < G.length) : w.cell? ⟨B, i, none⟩ = some (.int .i64 (hr G i)) :=
  h.cell_some (by rw [hr_lt hi]; simp [hi])

theorem _root_.Go.Blk.int_set {w : World} {B : Nat} {e : TypeId} {G : List Int} (h : Blk w B e (G.map (Value.int .i64))) (i : Nat) (x : Int) : Blk (w.setCell ⟨B, i, none⟩ (.int .i64 x)) B e ((G.set i x).map (Value.int .i64)) := by
  rw [List.map_set]
  exact h.set i _

theorem make_ints (N : Nat) (hN : N ≤ 1000) (w : World) : (Instr.makeSlice 40 (.int .i64 N) (.int .i64 N)).run Try.prog w = .ok (.slice (some ⟨w.heap.size, 0, none⟩) N N) (w.alloc (.cells (Array.replicate N (.int .i64 0)) 3)) := by
  obtain ⟨i0, hi0, hz0, hz1, hz2⟩ := info_parts info3
  have := run_make (P := Try.prog) w 40 3 i0 _ Try.underlying40 hi0 hz0 .i64 .i64 N N (by omega) (by omega) (by rw [hz2]; omega) (by omega)
  rw [this, hz1, Nat.mul_one, show (Value.int IntKind.i64 0).cells = #[Value.int IntKind.i64 0] from rfl, madeCells_one]
  rfl

theorem made_blk (N : Nat) (w : World) : Blk (w.alloc (.cells (Array.replicate N (.int .i64 0)) 3)) w.heap.size 3 ((List.replicate N (0 : Int)).map (Value.int .i64)) := by
  have := Blk.new w (Array.replicate N (.int .i64 0)) 3
  simpa using this

theorem bit_mod (a c : Nat) : ((a : Int) / 2 ^ c).tmod 2 = if a.testBit c = true then 1 else 0 := by
  have e : (a : Int) / 2 ^ c = ((a / 2 ^ c : Nat) : Int) := by simp
  rw [e]
  have h := Nat.testBit_eq_decide_div_mod_eq (x := a) (i := c)
  generalize a / 2 ^ c = y at h ⊢
  rw [Int.tmod_eq_emod_of_nonneg (Int.natCast_nonneg y), h]
  by_cases h1 : y % 2 = 1
  · simp [h1]; omega
  · simp [h1]; omega

theorem bit_one {a c : Nat} {b : Bool} (h : a.testBit c = b) : (((a : Int) / 2 ^ c).tmod 2 == 1) = b := by
  rw [bit_mod, h]; cases b <;> rfl

theorem bit_zero {a c : Nat} {b : Bool} (h : a.testBit c = b) : (((a : Int) / 2 ^ c).tmod 2 == 0) = !b := by
  rw [bit_mod, h]; cases b <;> rfl

/-- The labels and the number of groups after k fences, of those of a set. -/
def gS (back : Bool) (N : Nat) (l : List Fe) (S : Nat) : Nat → List Int × Int
  | 0 => (initG N, (N : Int))
  | k + 1 => if S.testBit k then grpStep back (gS back N l S k) (l.getD k default) else gS back N l S k
theorem gS_len (back : Bool) (N : Nat) (l : List Fe) (S : Nat) : ∀ k, (gS back N l S k).1.length = N := by
  intro k
  induction k with
  | zero => exact initG_len N
  | succ k ih =>
    unfold gS
    split
    · rw [grpStep_len, ih]
    · exact ih
theorem gS_low (back : Bool) (N : Nat) (l : List Fe) (S : Nat) : ∀ k, (N : Int) - k ≤ (gS back N l S k).2 ∧ (gS back N l S k).2 ≤ N := by
  intro k
  induction k with
  | zero => simp [gS]
  | succ k ih =>
    unfold gS
    split
    · unfold grpStep
      split
      · omega
      · dsimp only; omega
    · omega
theorem getD_lt {l : List Fe} {k : Nat} (h : k < l.length) : l.getD k default = l[k] := by rw [List.getD_eq_getElem?_getD, List.getElem?_eq_getElem h]; rfl
theorem gS_same {N : Nat} {l : List Fe} {S : Nat} (hs : ∀ f ∈ l, f.a.toNat < N ∧ f.b.toNat < N) : ∀ k, k ≤ l.length → SameK (gS true N l S k).1 (gS false N l S k).1 ∧ (gS true N l S k).2 = (gS false N l S k).2 := by
  intro k
  induction k with
  | zero => intro _; exact ⟨⟨rfl, fun _ _ _ _ => Iff.rfl⟩, rfl⟩
  | succ k ih =>
    intro h
    obtain ⟨i1, i2⟩ := ih (by omega)
    have hb := hs _ (List.getElem_mem (show k < l.length by omega))
    rw [← getD_lt (by omega)] at hb
    have hl := gS_len true N l S k
    unfold gS
    by_cases hbit : S.testBit k = true
    · rw [if_pos hbit, if_pos hbit]
      obtain ⟨G, m, hG⟩ : ∃ G m, gS true N l S k = (G, m) := ⟨_, _, rfl⟩
      obtain ⟨H, m', hH⟩ : ∃ H m, gS false N l S k = (H, m) := ⟨_, _, rfl⟩
      rw [hG, hH] at i1 i2
      rw [hG] at hl
      rw [hG, hH]
      dsimp only at i1 i2 hl
      subst i2
      exact i1.step (by rw [hl]; exact hb.1) (by rw [hl]; exact hb.2)
    · rw [if_neg hbit, if_neg hbit]
      exact ⟨i1, i2⟩
/-- How many groups a set of fences leaves. -/
def groupsV (N : Nat) (l : List Fe) (S : Nat) : Int := (gS false N l S l.length).2
theorem groupsV_back {N : Nat} {l : List Fe} {S : Nat} (hv : Valid N l) : (gS true N l S l.length).2 = groupsV N l S :=
  (gS_same (fun f hf => by obtain ⟨a, b, c, d⟩ := hv.ok f hf; omega) _ (Nat.le_refl _)).2
theorem groupsV_bounds (N : Nat) (l : List Fe) (S : Nat) : (N : Int) - l.length ≤ groupsV N l S ∧ groupsV N l S ≤ N := gS_low false N l S l.length

theorem and_zero {S k : Nat} {b : Bool} (h : S.testBit k = b) : (((S &&& 2 ^ k : Nat) : Int) == 0) = !b := by
  cases b with
  | true =>
    have hne : S &&& 2 ^ k ≠ 0 := fun h0 => by
      have h2 : (S &&& 2 ^ k).testBit k = true := by simp [Nat.testBit_and, h, Nat.testBit_two_pow_self]
      rw [h0] at h2
      simp at h2
    rw [Bool.not_true, beq_eq_false_iff_ne]
    omega
  | false =>
    have : S &&& 2 ^ k = 0 := by
      apply Nat.eq_of_testBit_eq
      intro i
      by_cases hi : k = i
      · subst hi; simp [Nat.testBit_and, h]
      · simp [Nat.testBit_and, Nat.testBit_two_pow_of_ne hi]
    rw [this]; rfl

set_option maxRecDepth 100000 in
set_option maxHeartbeats 2000000 in
theorem groups_any (N : Nat) (l : List Fe) (a : Option Addr) (cap b off p S : Nat) (w : World) (hv : Valid N l) (hs : FencesAt w b off l) (ha : l = [] ∨ a = some ⟨b, off, none⟩) (hp : GardenAt w p N (.slice a l.length cap)) (hS : S < 2 ^ 62) :
    Calls Try.prog 22 #[.pointer (some ⟨p, 0, none⟩), .int .i64 S] w fun e w' => e = .returned (.int .i64 (groupsV N l S)) ∧ Chg (fun _ => False) w w' := by
  have HS := Lib.hid hs; have HA := Lib.hid ha; have HV := Lib.hid hv; have HSB := Lib.hid hS; have HP := Lib.hid hp
  have q0 := HP.out.1
  have hn2 := hv.n2; have hn1 := hv.n1; have hl14 := hv.len
  clear hs ha hv hS hp
  have hmk := make_ints N (by omega)
  go_enter Try.func22, Try.ntmps22
  go_wp2_with fail
  have HB := Lib.hid (made_blk N w)
  have HCW := Lib.hid ((Chg.refl (fun _ => False) w).alloc (.cells (Array.replicate N (.int .i64 0)) 3))
  generalize w.alloc (.cells (Array.replicate N (.int .i64 0)) 3) = W1 at HB HCW ⊢
  obtain ⟨Bg, hBg⟩ : ∃ Bg, w.heap.size = Bg := ⟨_, rfl⟩
  rw [hBg] at HB ⊢
  have HZ := Lib.hid (show w.heap.size ≤ Bg by omega)
  clear hBg hmk q0
  go_loopg [21] N (fun g iv wr => ∃ (k : Nat) (G : List Int), k ≤ N ∧ g = N - k ∧ iv = .int .i64 k ∧ Blk wr Bg 3 (G.map (Value.int .i64)) ∧ G.length = N ∧ (∀ j, j < k → hr G j = j) ∧ Chg (fun _ => False) w wr)
  case atStart => exact ⟨0, List.replicate N 0, by omega, by omega, rfl, HB.out, by simp, fun j h => by omega, HCW.out⟩
  case round =>
    obtain ⟨k, G, hi, rfl, rfl, hB, hG, hd, hcg⟩ := hrel
    have HBW := Lib.hid hB; have HCG := Lib.hid hcg; have HD := Lib.hid hd; have HGL := Lib.hid hG
    clear hB hcg hd hG
    by_cases hlt : k < N
    · have gk := HBW.out.int_at (i := k) (by rw [HGL.out]; exact hlt)
      have gf := HBW.out.free k
      have hblt := HBW.out.lt
      go_wp2_with fail
      go_roundg (N - (k + 1))
      case measure => omega
      case rel =>
        refine ⟨k + 1, G.set k k, by omega, rfl, by go_num, HBW.out.int_set k k, by simp [HGL.out], fun j hj => ?_, HCG.out.setCell (a := ⟨Bg, k, none⟩) (.inr HZ.out) _⟩
        rw [hr_set (by rw [HGL.out]; exact hlt) (by rw [HGL.out]; omega)]
        split
        · rename_i h; rw [h]
        · exact HD.out j (by omega)
    · obtain rfl : k = N := by omega
      have HGI := Lib.hid (show G = initG k from ext_hr (by rw [initG_len]; exact HGL.out) fun j hj => by rw [HD.out j (by rw [← HGL.out]; exact hj), initG_hr (by rw [← HGL.out]; exact hj)])
      have q0 := (HP.out.chg HCG.out (fun x => x)).1; have q1 := (HP.out.chg HCG.out (fun x => x)).2
      clear hlt
      go_wp2_with fail
      clear q0 q1
      obtain ⟨N, rfl⟩ : ∃ N : Nat, N = k := ⟨_, rfl⟩
      go_loopg [7, 38] l.length (fun g mv iv wr => ∃ (k : Nat) (G : List Int) (m : Int), k ≤ l.length ∧ g = l.length - k ∧ iv = .int .i64 k ∧ mv = .int .i64 m ∧ gS false N l S k = (G, m) ∧ Blk wr Bg 3 (G.map (Value.int .i64)) ∧ Chg (fun _ => False) w wr)
      case atStart => exact ⟨0, G, N, by omega, by omega, rfl, rfl, by rw [HGI.out]; rfl, HBW.out, HCG.out⟩
      case round =>
        obtain ⟨k, G, m, hk, rfl, rfl, rfl, hst, hB, hcg⟩ := hrel
        have hGL : G.length = N := by have := gS_len false N l S k; rw [hst] at this; exact this
        have hml := gS_low false N l S k
        rw [hst] at hml
        dsimp only at hml
        have HBW2 := Lib.hid hB; have HCG2 := Lib.hid hcg; have HST := Lib.hid hst; have HGL2 := Lib.hid hGL
        clear hB hcg hst
        by_cases hlt : k < l.length
        · have hne : a = some ⟨b, off, none⟩ := HA.out.resolve_left (by intro h; simp [h] at hlt)
          subst hne
          obtain ⟨c0, c1⟩ := HS.out.chg HCG2.out (fun x => x) k hlt
          have hok := HV.out.ok _ (List.getElem_mem hlt)
          have hTK : ∀ X, (if S.testBit k = true then grpStep false (G, m) l[k] else (G, m)) = X → gS false N l S (k + 1) = X := fun X h => by
            unfold gS
            rw [HST.out, getD_lt hlt]
            exact h
          obtain ⟨s, hs⟩ : ∃ s, l[k] = s := ⟨_, rfl⟩
          rw [hs] at c0 c1 hok
          simp only [hs] at hTK
          have HTK := Lib.hid hTK
          clear hs hTK
          obtain ⟨o1, o2, o3, o4⟩ := hok
          have hal : Chg (fun _ => False) wr (wr.alloc (Obj.cells #[.int .i64 s.a, .int .i64 s.b] 24)) := (Chg.refl _ wr).alloc _
          have gs := hal.cell_some (HBW2.out.int_at (i := s.a.toNat) (by omega)) (fun x => x)
          have gd := hal.cell_some (HBW2.out.int_at (i := s.b.toNat) (by omega)) (fun x => x)
          have HAL := Lib.hid hal
          have bb := Blk.new wr #[.int .i64 s.a, .int .i64 s.b] 24
          have b0 := bb.cell_some (i := 0) rfl
          have b1 := bb.cell_some (i := 1) rfl
          clear hal bb
          obtain ⟨A, hA⟩ : ∃ A, hr G s.a.toNat = A := ⟨_, rfl⟩
          obtain ⟨B, hB⟩ : ∃ B, hr G s.b.toNat = B := ⟨_, rfl⟩
          rw [hA] at gs
          rw [hB] at gd
          have HAA := Lib.hid hA; have HBB := Lib.hid hB
          clear hA hB hGL
          go_wp2_with fail
          generalize (wr.alloc (Obj.cells #[.int .i64 s.a, .int .i64 s.b] 24)) = W4 at HAL gs gd b0 b1 ⊢
          clear c0 c1
          go_quiet (fail)
          clear gs gd b0 b1
          have HC4 := Lib.hid ((HCG2.out.trans HAL.out (fun _ x => x.elim)).drewN nq)
          have HB4 := Lib.hid ((HAL.out.blk HBW2.out (fun x => x)).drewN nq)
          generalize W4.drewN nq = W5 at HC4 HB4 ⊢
          obtain ⟨bt, hbt⟩ : ∃ bt, S.testBit k = bt := ⟨_, rfl⟩
          have hand := i64_and_nat S (2 ^ k) (by have := HSB.out; omega) (by have : 2 ^ k ≤ 2 ^ 14 := Nat.pow_le_pow_right (by omega) (by omega); omega)
          have dbit := and_zero hbt
          rw [← hand, show ((2 ^ k : Nat) : Int) = (2 : Int) ^ k by simp] at dbit
          have hwk := i64_pow (c := k) (by omega)
          rw [show ((2 ^ k : Nat) : Int) = (2 : Int) ^ k by simp] at hwk
          clear hand
          have HBT := Lib.hid hbt
          clear hbt
          cases bt with
          | false =>
            have dprop : bits .and .i64 (S : Int) ((2 : Int) ^ k) = 0 := by simpa using dbit
            have HST2 := Lib.hid (HTK.out (G, m) (by rw [if_neg (by rw [HBT.out]; decide)]))
            go_wp2_with fail
            go_roundg (l.length - (k + 1))
            case measure => omega
            case rel => exact ⟨k + 1, G, m, by omega, rfl, by go_num, rfl, HST2.out, HB4.out, HC4.out⟩
          | true =>
            have dprop : ¬ bits .and .i64 (S : Int) ((2 : Int) ^ k) = 0 := by simpa using dbit
            by_cases hab : A = B
            · have dab : (A == B) = true := by simpa using hab
              have HST2 := Lib.hid (HTK.out (G, m) (by rw [if_pos HBT.out]; unfold grpStep; rw [if_pos (by dsimp only; rw [HAA.out, HBB.out, hab])]))
              clear hab
              go_wp2_with fail
              go_roundg (l.length - (k + 1))
              case measure => omega
              case rel => exact ⟨k + 1, G, m, by omega, rfl, by go_num, rfl, HST2.out, HB4.out, HC4.out⟩
            · have dab : (A == B) = false := by simpa using hab
              have HST2 := Lib.hid (HTK.out (mergeG G B A, m - 1) (by rw [if_pos HBT.out]; unfold grpStep; rw [if_neg (by dsimp only; rw [HAA.out, HBB.out]; exact hab)]; simp [HAA.out, HBB.out]))
              clear hab
              go_wp2_with fail
              go_loopg [67] N (fun g jv wr => ∃ (j : Nat) (G' : List Int), j ≤ N ∧ g = N - j ∧ jv = .int .i64 j ∧ MergeTo G G' B A j ∧ Blk wr Bg 3 (G'.map (Value.int .i64)) ∧ Chg (fun _ => False) w wr)
              case atStart => exact ⟨0, G, by omega, by omega, rfl, .start, HB4.out, HC4.out⟩
              case round =>
                obtain ⟨j, G', hj, rfl, rfl, hmt, hB, hcg⟩ := hrel
                have HMT := Lib.hid hmt; have HB6 := Lib.hid hB; have HC6 := Lib.hid hcg
                clear hmt hB hcg
                have hgl := HGL2.out
                by_cases hjl : j < N
                · have gk := HB6.out.int_at (i := j) (by rw [HMT.out.len, hgl]; exact hjl)
                  have gf := HB6.out.free j
                  have hblt := HB6.out.lt
                  rw [HMT.out.rest j (Nat.le_refl _) (by omega)] at gk
                  obtain ⟨z, hz⟩ : ∃ z, hr G j = z := ⟨_, rfl⟩
                  rw [hz] at gk
                  by_cases hzb : z = B
                  · have dz : (z == B) = true := by simpa using hzb
                    have HM2 := Lib.hid (HMT.out.put (by omega) (hz.trans hzb))
                    clear hzb hz hgl
                    go_wp2_with fail
                    go_roundg (N - (j + 1))
                    case measure => omega
                    case rel => exact ⟨j + 1, _, by omega, rfl, by go_num, HM2.out, HB6.out.int_set j A, HC6.out.setCell (a := ⟨Bg, j, none⟩) (.inr HZ.out) _⟩
                  · have dz : (z == B) = false := by simpa using hzb
                    have HM2 := Lib.hid (HMT.out.skip (by omega) (by rw [hz]; exact hzb))
                    clear hzb hz hgl
                    go_wp2_with fail
                    go_roundg (N - (j + 1))
                    case measure => omega
                    case rel => exact ⟨j + 1, _, by omega, rfl, by go_num, HM2.out, HB6.out, HC6.out⟩
                · have HFN := Lib.hid (HMT.out.fin (by omega))
                  clear hgl
                  go_wp2_with fail
                  go_roundg (l.length - (k + 1))
                  case measure => omega
                  case rel => exact ⟨k + 1, G', m - 1, by omega, rfl, by go_num, rfl, by rw [HST2.out, HFN.out], HB6.out, HC6.out⟩
        · obtain rfl : k = l.length := by omega
          have HM := Lib.hid (show m = groupsV N l S by have := HST.out; unfold groupsV; rw [this])
          clear hlt
          go_wp2_with fail
          go_ret
          exact ⟨by rw [HM.out]; rfl, HCG2.out⟩

set_option maxRecDepth 100000 in
set_option maxHeartbeats 2000000 in
theorem rgroups_any (N : Nat) (l : List Fe) (a : Option Addr) (cap b off S : Nat) (w : World) (hv : Valid N l) (hs : FencesAt w b off l) (ha : l = [] ∨ a = some ⟨b, off, none⟩) (hS : S < 2 ^ 62) :
    Calls Try.prog 38 #[.int .i64 N, .slice a l.length cap, .int .i64 S] w fun e w' => e = .returned (.int .i64 (groupsV N l S)) ∧ Chg (fun _ => False) w w' := by
  have HS := Lib.hid hs; have HA := Lib.hid ha; have HV := Lib.hid hv; have HSB := Lib.hid hS; skip
  skip
  have hn2 := hv.n2; have hn1 := hv.n1; have hl14 := hv.len
  clear hs ha hv hS 
  have hmk := make_ints N (by omega)
  go_enter Try.func38, Try.ntmps38
  go_wp2_with fail
  have HB := Lib.hid (made_blk N w)
  have HCW := Lib.hid ((Chg.refl (fun _ => False) w).alloc (.cells (Array.replicate N (.int .i64 0)) 3))
  generalize w.alloc (.cells (Array.replicate N (.int .i64 0)) 3) = W1 at HB HCW ⊢
  obtain ⟨Bg, hBg⟩ : ∃ Bg, w.heap.size = Bg := ⟨_, rfl⟩
  rw [hBg] at HB ⊢
  have HZ := Lib.hid (show w.heap.size ≤ Bg by omega)
  clear hBg hmk 
  go_loopg [8] N (fun g iv wr => ∃ (k : Nat) (G : List Int), k ≤ N ∧ g = N - k ∧ iv = .int .i64 k ∧ Blk wr Bg 3 (G.map (Value.int .i64)) ∧ G.length = N ∧ (∀ j, j < k → hr G j = j) ∧ Chg (fun _ => False) w wr)
  case atStart => exact ⟨0, List.replicate N 0, by omega, by omega, rfl, HB.out, by simp, fun j h => by omega, HCW.out⟩
  case round =>
    obtain ⟨k, G, hi, rfl, rfl, hB, hG, hd, hcg⟩ := hrel
    have HBW := Lib.hid hB; have HCG := Lib.hid hcg; have HD := Lib.hid hd; have HGL := Lib.hid hG
    clear hB hcg hd hG
    by_cases hlt : k < N
    · have gk := HBW.out.int_at (i := k) (by rw [HGL.out]; exact hlt)
      have gf := HBW.out.free k
      have hblt := HBW.out.lt
      go_wp2_with fail
      go_roundg (N - (k + 1))
      case measure => omega
      case rel =>
        refine ⟨k + 1, G.set k k, by omega, rfl, by go_num, HBW.out.int_set k k, by simp [HGL.out], fun j hj => ?_, HCG.out.setCell (a := ⟨Bg, k, none⟩) (.inr HZ.out) _⟩
        rw [hr_set (by rw [HGL.out]; exact hlt) (by rw [HGL.out]; omega)]
        split
        · rename_i h; rw [h]
        · exact HD.out j (by omega)
    · obtain rfl : k = N := by omega
      have HGI := Lib.hid (show G = initG k from ext_hr (by rw [initG_len]; exact HGL.out) fun j hj => by rw [HD.out j (by rw [← HGL.out]; exact hj), initG_hr (by rw [← HGL.out]; exact hj)])
      skip
      clear hlt
      go_wp2_with fail
      skip
      obtain ⟨N, rfl⟩ : ∃ N : Nat, N = k := ⟨_, rfl⟩
      go_loopg [9, 10] l.length (fun g mv iv wr => ∃ (k : Nat) (G : List Int) (m : Int), k ≤ l.length ∧ g = l.length - k ∧ iv = .int .i64 k ∧ mv = .int .i64 m ∧ gS true N l S k = (G, m) ∧ Blk wr Bg 3 (G.map (Value.int .i64)) ∧ Chg (fun _ => False) w wr)
      case atStart => exact ⟨0, G, N, by omega, by omega, rfl, rfl, by rw [HGI.out]; rfl, HBW.out, HCG.out⟩
      case round =>
        obtain ⟨k, G, m, hk, rfl, rfl, rfl, hst, hB, hcg⟩ := hrel
        have hGL : G.length = N := by have := gS_len true N l S k; rw [hst] at this; exact this
        have hml := gS_low true N l S k
        rw [hst] at hml
        dsimp only at hml
        have HBW2 := Lib.hid hB; have HCG2 := Lib.hid hcg; have HST := Lib.hid hst; have HGL2 := Lib.hid hGL
        clear hB hcg hst
        by_cases hlt : k < l.length
        · have hne : a = some ⟨b, off, none⟩ := HA.out.resolve_left (by intro h; simp [h] at hlt)
          subst hne
          obtain ⟨c0, c1⟩ := HS.out.chg HCG2.out (fun x => x) k hlt
          have hok := HV.out.ok _ (List.getElem_mem hlt)
          have hTK : ∀ X, (if S.testBit k = true then grpStep true (G, m) l[k] else (G, m)) = X → gS true N l S (k + 1) = X := fun X h => by
            unfold gS
            rw [HST.out, getD_lt hlt]
            exact h
          obtain ⟨s, hs⟩ : ∃ s, l[k] = s := ⟨_, rfl⟩
          rw [hs] at c0 c1 hok
          simp only [hs] at hTK
          have HTK := Lib.hid hTK
          clear hs hTK
          obtain ⟨o1, o2, o3, o4⟩ := hok
          have gs := HBW2.out.int_at (i := s.a.toNat) (by omega)
          have gd := HBW2.out.int_at (i := s.b.toNat) (by omega)
          obtain ⟨A, hA⟩ : ∃ A, hr G s.a.toNat = A := ⟨_, rfl⟩
          obtain ⟨B, hB⟩ : ∃ B, hr G s.b.toNat = B := ⟨_, rfl⟩
          rw [hA] at gs
          rw [hB] at gd
          have HAA := Lib.hid hA; have HBB := Lib.hid hB
          clear hA hB hGL
          go_wp2_with fail
          go_quiet (fail)
          clear gs gd c0 c1
          have HC4 := Lib.hid (HCG2.out.drewN nq)
          have HB4 := Lib.hid (HBW2.out.drewN nq)
          generalize wr.drewN nq = W5 at HC4 HB4 ⊢
          obtain ⟨bt, hbt⟩ : ∃ bt, S.testBit k = bt := ⟨_, rfl⟩
          have dbit := bit_zero hbt
          have HBT := Lib.hid hbt
          clear hbt
          cases bt with
          | false =>
            skip
            have HST2 := Lib.hid (HTK.out (G, m) (by rw [if_neg (by rw [HBT.out]; decide)]))
            go_wp2_with fail
            go_roundg (l.length - (k + 1))
            case measure => omega
            case rel => exact ⟨k + 1, G, m, by omega, rfl, by go_num, rfl, HST2.out, HB4.out, HC4.out⟩
          | true =>
            skip
            by_cases hab : A = B
            · have dab : (A == B) = true := by simpa using hab
              have HST2 := Lib.hid (HTK.out (G, m) (by rw [if_pos HBT.out]; unfold grpStep; rw [if_pos (by dsimp only; rw [HAA.out, HBB.out, hab])]))
              clear hab
              go_wp2_with fail
              go_roundg (l.length - (k + 1))
              case measure => omega
              case rel => exact ⟨k + 1, G, m, by omega, rfl, by go_num, rfl, HST2.out, HB4.out, HC4.out⟩
            · have dab : (A == B) = false := by simpa using hab
              have HST2 := Lib.hid (HTK.out (mergeG G A B, m - 1) (by rw [if_pos HBT.out]; unfold grpStep; rw [if_neg (by dsimp only; rw [HAA.out, HBB.out]; exact hab)]; simp [HAA.out, HBB.out]))
              clear hab
              go_wp2_with fail
              go_loopg [13] N (fun g jv wr => ∃ (j : Nat) (G' : List Int), j ≤ N ∧ g = N - j ∧ jv = .int .i64 j ∧ MergeTo G G' A B j ∧ Blk wr Bg 3 (G'.map (Value.int .i64)) ∧ Chg (fun _ => False) w wr)
              case atStart => exact ⟨0, G, by omega, by omega, rfl, .start, HB4.out, HC4.out⟩
              case round =>
                obtain ⟨j, G', hj, rfl, rfl, hmt, hB, hcg⟩ := hrel
                have HMT := Lib.hid hmt; have HB6 := Lib.hid hB; have HC6 := Lib.hid hcg
                clear hmt hB hcg
                have hgl := HGL2.out
                by_cases hjl : j < N
                · have gk := HB6.out.int_at (i := j) (by rw [HMT.out.len, hgl]; exact hjl)
                  have gf := HB6.out.free j
                  have hblt := HB6.out.lt
                  rw [HMT.out.rest j (Nat.le_refl _) (by omega)] at gk
                  obtain ⟨z, hz⟩ : ∃ z, hr G j = z := ⟨_, rfl⟩
                  rw [hz] at gk
                  by_cases hzb : z = A
                  · have dz : (z == A) = true := by simpa using hzb
                    have HM2 := Lib.hid (HMT.out.put (by omega) (hz.trans hzb))
                    clear hzb hz hgl
                    go_wp2_with fail
                    go_roundg (N - (j + 1))
                    case measure => omega
                    case rel => exact ⟨j + 1, _, by omega, rfl, by go_num, HM2.out, HB6.out.int_set j B, HC6.out.setCell (a := ⟨Bg, j, none⟩) (.inr HZ.out) _⟩
                  · have dz : (z == A) = false := by simpa using hzb
                    have HM2 := Lib.hid (HMT.out.skip (by omega) (by rw [hz]; exact hzb))
                    clear hzb hz hgl
                    go_wp2_with fail
                    go_roundg (N - (j + 1))
                    case measure => omega
                    case rel => exact ⟨j + 1, _, by omega, rfl, by go_num, HM2.out, HB6.out, HC6.out⟩
                · have HFN := Lib.hid (HMT.out.fin (by omega))
                  clear hgl
                  go_wp2_with fail
                  go_roundg (l.length - (k + 1))
                  case measure => omega
                  case rel => exact ⟨k + 1, G', m - 1, by omega, rfl, by go_num, rfl, by rw [HST2.out, HFN.out], HB6.out, HC6.out⟩
        · obtain rfl : k = l.length := by omega
          have HM := Lib.hid (show m = groupsV N l S by have := HST.out; rw [← groupsV_back HV.out, this])
          clear hlt
          go_wp2_with fail
          go_ret
          exact ⟨by rw [HM.out]; rfl, HCG2.out⟩
end Go.Proofs.Ytmmpdfcnenljhaa
