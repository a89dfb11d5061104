/- Groups and Bridges, of the program and of the reference, walked. Their conditions are their premises. -/
import Derived.Test.YtmmpdfcnenljhaaF2
set_option linter.unusedVariables false
namespace Go.Proofs.Ytmmpdfcnenljhaa
open Go.RowKit

instance : Nonempty Ext := ⟨⟨#[], 0⟩⟩
theorem chg_grow {w w' : World} (h : Chg (fun _ => False) w w') : ∃ x, w' = w.grow x := World.grow_of_below h.below
theorem Calls.chg_grow {P : Program} {f : FuncId} {args : Array Value} {w : World} {v : Value} (h : Calls P f args w fun e w' => e = .returned v ∧ Chg (fun _ => False) w w') :
    Calls P f args w fun e w' => e = .returned v ∧ ∃ x, w' = w.grow x := h.mono fun _ _ ⟨h1, h2⟩ => ⟨h1, Ytmmpdfcnenljhaa.chg_grow h2⟩

/-- All fences, as bits. -/
def allV (l : List Fe) : Nat := 2 ^ l.length - 1
theorem allV_lt {l : List Fe} (h : l.length ≤ 14) : allV l < 2 ^ 14 := by
  unfold allV
  have : 2 ^ l.length ≤ 2 ^ 14 := Nat.pow_le_pow_right (by omega) h
  have := Nat.two_pow_pos l.length
  omega
theorem all_wraps {m : Nat} (h : m ≤ 14) : wrap64 ((2 : Int) ^ m) = (2 : Int) ^ m ∧ wrap64 ((2 : Int) ^ m - 1) = ((2 ^ m - 1 : Nat) : Int) := by
  have h1 : 2 ^ m ≤ 2 ^ 14 := Nat.pow_le_pow_right (by omega) h
  have h0 := Nat.two_pow_pos m
  have e2 : (2 : Int) ^ m = ((2 ^ m : Nat) : Int) := by simp
  rw [e2]
  exact ⟨wrap64_nat _ (by omega), by unfold wrap64; omega⟩
theorem andNot_all : ∀ m, m < 15 → ∀ i, i < m → bits .andNot .i64 (((2 ^ m - 1 : Nat) : Nat) : Int) ((2 : Int) ^ i) = ((2 ^ m - 1 - 2 ^ i : Nat) : Int) := by decide +kernel

set_option maxRecDepth 100000 in
set_option maxHeartbeats 1000000 in
theorem all_any (N : Int) (l : List Fe) (a : Option Addr) (cap p : Nat) (w : World) (hl : l.length ≤ 14) (hp : GardenAt w p N (.slice a l.length cap)) :
    Calls Try.prog 23 #[.pointer (some ⟨p, 0, none⟩)] w fun e w' => e = .returned (.int .i64 (allV l : Nat)) ∧ Chg (fun _ => False) w w' := by
  obtain ⟨h1, h2⟩ := all_wraps hl
  have q1 := hp.2
  have H2 := Lib.hid h2
  clear h2 hp
  go_enter Try.func23, Try.ntmps23
  go_wp2_with fail
  go_ret
  refine ⟨?_, Chg.refl _ _⟩
  have h2 := H2.out
  unfold allV
  rw [← h2]
  simp only [h1]
  rfl

def GrPost (n : Int) (l : List Fe) (w : World) (e : Ending) (w' : World) : Prop :=
  Chg (fun _ => False) w w' ∧ (gardenE n l ≠ 0 ∧ e = .returned (.tuple #[.int .i64 0, .int .i64 (gardenE n l)]) ∨ gardenE n l = 0 ∧ e = .returned (.tuple #[.int .i64 (groupsV n.toNat l (allV l)), .int .i64 0]))

set_option maxRecDepth 100000 in
set_option maxHeartbeats 1000000 in
theorem Groups_any (n : Int) (l : List Fe) (a : Option Addr) (cap b off : Nat) (w : World) (hs : FencesAt w b off l) (ha : l = [] ∨ a = some ⟨b, off, none⟩) :
    Calls Try.prog 19 #[.int .i64 n, .slice a l.length cap] w (GrPost n l w) := by
  have HS := Lib.hid hs; have HA := Lib.hid ha
  clear hs ha
  go_enter Try.func19, Try.ntmps19
  go_wp2_with fail
  refine (of_any n l a cap b off w HS.out HA.out).mono ?_
  rintro e w1 ⟨hc1, ⟨h0, rfl⟩ | ⟨h0, p, rfl, hp⟩⟩
  · have hq : (gardenE n l != 0) = true := by simpa using h0
    have H0 := Lib.hid h0; have HC := Lib.hid hc1
    clear h0 hc1
    go_wp2_with fail
    go_ret2
    exact ⟨HC.out, .inl ⟨H0.out, rfl⟩⟩
  · have hv := valid_of h0
    obtain ⟨N, rfl⟩ : ∃ N : Nat, n = N := ⟨n.toNat, by have := hv.n1; omega⟩
    have hlt := allV_lt hv.len
    have H0 := Lib.hid h0; have HC := Lib.hid hc1; have HP := Lib.hid hp; have HV := Lib.hid hv; have HLT := Lib.hid hlt
    clear h0 hc1 hp hv hlt
    go_wp2_with fail
    refine (all_any N l a cap p w1 HV.out.len HP.out).mono ?_
    rintro e w2 ⟨rfl, hc2⟩
    have HP2 := Lib.hid (HP.out.chg hc2 (fun x => x)); have HC2 := Lib.hid (HC.out.trans hc2 (fun _ x => x.elim))
    clear hc2
    obtain ⟨A, hA⟩ : ∃ A, allV l = A := ⟨_, rfl⟩
    have hg := groups_any N l a cap b off p (allV l) w2 HV.out (HS.out.chg HC2.out (fun x => x)) HA.out HP2.out (by have := HLT.out; omega)
    rw [hA] at hg ⊢
    have HG := Lib.hid hg; have HAA := Lib.hid hA
    clear hg hA
    go_wp2_with fail
    refine HG.out.mono ?_
    rintro e w3 ⟨rfl, hc3⟩
    have HC3 := Lib.hid (HC2.out.trans hc3 (fun _ x => x.elim))
    clear hc3
    go_wp2_with fail
    go_ret2
    exact ⟨HC3.out, .inr ⟨H0.out, by rw [HAA.out, Int.toNat_natCast]; rfl⟩⟩

set_option maxRecDepth 100000 in
set_option maxHeartbeats 1000000 in
theorem rGroups_any (n : Int) (l : List Fe) (a : Option Addr) (cap b off : Nat) (w : World) (hs : FencesAt w b off l) (ha : l = [] ∨ a = some ⟨b, off, none⟩) :
    Calls Try.prog 20 #[.int .i64 n, .slice a l.length cap] w (GrPost n l w) := by
  have HS := Lib.hid hs; have HA := Lib.hid ha
  clear hs ha
  go_enter Try.func20, Try.ntmps20
  go_wp2_with fail
  refine (Garden_any n l a cap b off w HS.out HA.out).mono ?_
  rintro e w1 ⟨rfl, hc1⟩
  have HC := Lib.hid hc1
  clear hc1
  by_cases h0 : gardenE n l = 0
  · have hv := valid_of h0
    obtain ⟨N, rfl⟩ : ∃ N : Nat, n = N := ⟨n.toNat, by have := hv.n1; omega⟩
    obtain ⟨h1, h2⟩ := all_wraps hv.len
    obtain ⟨A, hA⟩ : ∃ A, allV l = A := ⟨_, rfl⟩
    have hg := rgroups_any N l a cap b off (allV l) w1 hv (HS.out.chg HC.out (fun x => x)) HA.out (by have := allV_lt hv.len; omega)
    have h3 : wrap64 ((2 : Int) ^ l.length - 1) = (A : Int) := by rw [h2, ← hA]; rfl
    rw [hA] at hg
    have HG := Lib.hid hg; have H0 := Lib.hid h0; have HAA := Lib.hid hA; have H3 := Lib.hid h3
    rw [h0]
    have hl14 := hv.len
    clear h0 hv h2 hg hA h3
    go_wp2_with fail
    rw [H3.out]
    refine HG.out.mono ?_
    rintro e w3 ⟨rfl, hc3⟩
    have HC3 := Lib.hid (HC.out.trans hc3 (fun _ x => x.elim))
    clear hc3
    go_wp2_with fail
    go_ret2
    exact ⟨HC3.out, .inr ⟨H0.out, by rw [HAA.out, Int.toNat_natCast]; rfl⟩⟩
  · have hq : (gardenE n l != 0) = true := by simpa using h0
    have H0 := Lib.hid h0
    clear h0
    go_wp2_with fail
    go_ret2
    exact ⟨HC.out, .inl ⟨H0.out, rfl⟩⟩

/-- Is a fence a bridge? -/
def bridgeB (N : Nat) (l : List Fe) (i : Nat) : Bool := decide (groupsV N l (allV l) < groupsV N l (allV l - 2 ^ i))

set_option maxRecDepth 100000 in
set_option maxHeartbeats 1000000 in
theorem bridge_any (N : Nat) (l : List Fe) (a : Option Addr) (cap b off p i : Nat) (w : World) (hv : Valid N l) (hs : FencesAt w b off l) (ha : l = [] ∨ a = some ⟨b, off, none⟩) (hp : GardenAt w p N (.slice a l.length cap)) (hi : i < l.length) :
    Calls Try.prog 44 #[.pointer (some ⟨p, 0, none⟩), .int .i64 (i : Nat)] w fun e w' => e = .returned (.bool (bridgeB N l i)) ∧ Chg (fun _ => False) w w' := by
  have hl14 := hv.len
  have hlt := allV_lt hv.len
  have hAN := andNot_all l.length (by omega) i hi
  obtain ⟨A, hA⟩ : ∃ A, allV l = A := ⟨_, rfl⟩
  obtain ⟨B, hB⟩ : ∃ B, allV l - 2 ^ i = B := ⟨_, rfl⟩
  have hwk := i64_pow (c := i) (by omega)
  rw [show ((2 ^ i : Nat) : Int) = (2 : Int) ^ i by simp] at hwk
  have e : (2 ^ l.length - 1 - 2 ^ i : Nat) = B := hB
  have e' : (2 ^ l.length - 1 : Nat) = A := hA
  rw [e, e'] at hAN
  have hBA : B ≤ A := by rw [← hB, hA]; exact Nat.sub_le _ _
  have HALL : Hid (∀ z, Calls Try.prog 23 #[.pointer (some ⟨p, 0, none⟩)] (w.grow z) fun e w'' => e = .returned (.int .i64 (A : Nat)) ∧ ∃ y, w'' = w.grow y) := Lib.hid (fun z => by
    have h := all_any N l a cap p (w.grow z) hl14 (hp.chg (grow_chg w z) (fun x => x))
    rw [hA] at h
    exact Calls.grow_of (Calls.chg_grow h))
  have HG : Hid (∀ S : Nat, S < 2 ^ 62 → ∀ z, Calls Try.prog 22 #[.pointer (some ⟨p, 0, none⟩), .int .i64 (S : Nat)] (w.grow z) fun e w'' => e = .returned (.int .i64 (groupsV N l S)) ∧ ∃ y, w'' = w.grow y) := Lib.hid (fun S hS z =>
    Calls.grow_of (Calls.chg_grow (groups_any N l a cap b off p S (w.grow z) hv (hs.chg (grow_chg w z) (fun x => x)) ha (hp.chg (grow_chg w z) (fun x => x)) hS)))
  have hA62 : A < 2 ^ 62 := by omega
  have hB62 : B < 2 ^ 62 := by omega
  have HBR := Lib.hid (show bridgeB N l i = decide (groupsV N l A < groupsV N l B) by unfold bridgeB; rw [hA, ← hB, hA])
  have hil : i ≤ 14 := by omega
  clear hv hs ha hp hA hB e e' hi hlt
  go_enter Try.func44, Try.ntmps44
  go_wp2_with fail
  refine wp_region_grow_lit (by kernel_rfl) (by kernel_rfl) ?_
  repeat (go_big_quiet_step (first | (go_at_call 23; exact HALL.out _) | (go_at_call 22; exact HG.out _ (by assumption) _)))
  refine wpQuiet_nil ?_
  intro _ hw'
  obtain ⟨nq, hw''⟩ := hw'
  subst hw''
  go_wp2_with fail
  go_ret
  exact ⟨by rw [HBR.out]; rfl, grow_chg w nq⟩
end Go.Proofs.Ytmmpdfcnenljhaa
