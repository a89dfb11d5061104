/- The reference's Plan, Plans and Shortest, walked: they return what the program's do, of few plans. Their conditions are their premises. -/
import Derived.Test.YtgamekcjjpjnnaaR4
import Derived.Test.YtgamekcjjpjnnaaR6
import Derived.Test.YtgamekcjjpjnnaaA20
set_option linter.unusedVariables false
namespace Go.Proofs.Ytgamekcjjpjnnaa
open Go.RowKit

def AllPost (s : Best) (w : World) (e : Ending) (w' : World) : Prop := ∃ fb, e = .returned (.pointer (some ⟨fb, 0, none⟩)) ∧ FindAt w' fb s ∧ Chg (fun _ => False) w w'

theorem spans_away {w : World} {b off fb : Nat} {a : Option Addr} {l : List Sp} (hs : SpansAt w b off l) (ha : l = [] ∨ a = some ⟨b, off, none⟩) (hfb : w.heap.size ≤ fb) : ∃ b' off', SpansAt w b' off' l ∧ (l = [] ∨ a = some ⟨b', off', none⟩) ∧ b' ≠ fb := by
  by_cases hl : l = []
  · subst hl
    exact ⟨fb + 1, 0, fun k hk => by simp at hk, .inl rfl, by omega⟩
  · have hlen : 0 < l.length := List.length_pos_iff.2 hl
    have hlt : b < w.heap.size := World.cell_lt (hs 0 hlen).1
    exact ⟨b, off, hs, ha, by omega⟩

set_option maxRecDepth 100000 in
set_option maxHeartbeats 1000000 in
theorem all_any (T N : Nat) (l : List Sp) (hv : Valid T N l) (a : Option Addr) (cap b0 off0 : Nat) (w : World) (hs0 : SpansAt w b0 off0 l) (ha0 : l = [] ∨ a = some ⟨b0, off0, none⟩) (hm : (plans T N l).length ≤ 10000) :
    Calls Try.prog 55 #[.int .i64 T, .int .i64 N, .slice a l.length cap] w (AllPost ((plans T N l).foldl (refStep T l) ⟨none, 0, 0⟩) w) := by
  obtain ⟨fb, hfb⟩ : ∃ fb, w.heap.size = fb := ⟨_, rfl⟩
  obtain ⟨b, off, hs, ha, hb⟩ := spans_away (fb := fb) hs0 ha0 (by omega)
  have hn1 := hv.n1
  have HV := Lib.hid hv; have HS := Lib.hid hs; have HA := Lib.hid ha; have HB := Lib.hid hb; have HM := Lib.hid hm; have HFB := Lib.hid hfb
  clear hv hs ha hb hm hs0 ha0
  go_enter Try.func55, Try.ntmps55
  go_wp2_with fail
  have HBL := Lib.hid (Blk.new w #[Value.int .i64 0, Value.slice none 0 0, Value.int .i64 0] 72)
  have HC0 := Lib.hid ((Chg.refl (fun _ => False) w).alloc (.cells #[Value.int .i64 0, Value.slice none 0 0, Value.int .i64 0] 72))
  rw [hfb] at HBL
  clear hfb
  generalize w.alloc (.cells #[Value.int .i64 0, Value.slice none 0 0, Value.int .i64 0] 72) = W at HBL HC0 ⊢
  refine (differences_any T N l HV.out a cap b off W (HS.out.chg HC0.out (fun x => x)) HA.out).mono ?_
  rintro e W1 ⟨g, co, rs, M, rfl, hA, hD, hc1⟩
  have hB1 := hc1.blk HBL.out (fun x => x)
  have HCX : Hid (Cx W1 g rs N M b off l fb) := Lib.hid ⟨hD, (HS.out.chg HC0.out (fun x => x)).chg hc1 (fun x => x), HB.out, fun e => by
    have h1 := hD.out 0 (by omega)
    rw [e, hB1.cell] at h1
    simp at h1, fun i hi e => by
    have h1 := hD.row i hi
    unfold Blk at h1 hB1
    rw [e, hB1] at h1
    simp at h1⟩
  have HAP := Lib.hid hA
  have HF1 : Hid (FindAt W1 fb ⟨none, 0, 0⟩) := Lib.hid ⟨_, hB1, rfl⟩
  have HC1 := Lib.hid (HC0.out.trans hc1 (fun _ x => x.elim))
  clear hA hD hc1 hB1
  go_wp2_with fail
  refine (found_from T N l HV.out a cap b off HA.out M HAP.out g co fb rs W1 HCX.out HF1.out HM.out).mono ?_
  rintro e W2 ⟨rfl, hF2, hc2⟩
  have HF2 := Lib.hid hF2
  have HC2 := Lib.hid (HC1.out.trans hc2 (fun k hk => .inr (by have := HFB.out; omega)))
  clear hF2 hc2
  go_wp2_with fail
  go_ret
  exact ⟨fb, rfl, HF2.out, HC2.out⟩

def CountPost (r : Int × Int) (w : World) (e : Ending) (w' : World) : Prop := e = .returned (.tuple #[.int .i64 r.1, .int .i64 r.2]) ∧ Chg (fun _ => False) w w'

set_option maxRecDepth 100000 in
set_option maxHeartbeats 1000000 in
theorem rPlan_any (t n : Int) (l : List Sp) (a : Option Addr) (cap : Nat) (w : World) (b off : Nat) (hs : SpansAt w b off l) (ha : l = [] ∨ a = some ⟨b, off, none⟩) :
    Calls Try.prog 24 #[.int .i64 t, .int .i64 n, .slice a l.length cap] w (LPost (planE t n l) w) := by
  have heql : ∀ (w : World) (a : Option Addr) (l c : Nat), (binOp .eql 25 (.slice a l c) (.slice none 0 0)).run Try.prog w = .ok (.bool a.isNone) w := fun w a l c => Lib.run_eql_slice_nil w 25 3 a l c 0 0 Try.underlying25
  have HS := Lib.hid hs; have HA := Lib.hid ha; clear hs ha
  go_enter Try.func24, Try.ntmps24
  go_wp2_with fail
  refine (spans_any t n l a cap w b off HS.out HA.out).mono ?_
  rintro e w' ⟨rfl, x, rfl⟩
  have HC := Lib.hid (grow_chg w x)
  generalize w.grow x = W at HC ⊢
  by_cases h0 : spansE t n l = 0
  · rw [h0]
    have hv := valid_of h0
    obtain ⟨T, rfl⟩ : ∃ T : Nat, t = T := ⟨t.toNat, by have := hv.t1; omega⟩
    obtain ⟨N, rfl⟩ : ∃ N : Nat, n = N := ⟨n.toNat, by have := hv.n1; omega⟩
    have HE := Lib.hid (planE_ok h0); have HV := Lib.hid hv
    clear h0 hv
    go_wp2_with fail
    refine (differences_any T N l HV.out a cap b off W (HS.out.chg HC.out (fun x => x)) HA.out).mono ?_
    rintro e W1 ⟨g, co, rs, M, rfl, hA, hD, hc1⟩
    have HAP := Lib.hid hA; have HD := Lib.hid hD
    have HC1 := Lib.hid (HC.out.trans hc1 (fun _ x => x.elim))
    clear hA hD hc1
    obtain ⟨r, hr⟩ : ∃ r, (plans T N l).head? = r := ⟨_, rfl⟩
    have hff := first_from T N l HV.out M HAP.out g co rs W1 HD.out
    rw [hr] at hff
    have HFF := Lib.hid hff
    have HR := Lib.hid hr
    clear hff hr
    go_wp2_with fail
    refine HFF.out.mono ?_
    rintro e W2 ⟨hc2, he⟩
    have HC2 := Lib.hid (HC1.out.trans hc2 (fun _ x => x.elim))
    clear hc2
    cases r with
    | none =>
      have he' : e = .returned (.slice none 0 0) := he
      subst he'
      try clear he
      go_wp2_with fail
      go_ret2
      rw [HE.out, HR.out]
      exact .nil HC2.out
    | some X =>
      obtain ⟨g2, c2, he', hI⟩ : ∃ g c, e = .returned (.slice (some ⟨g, 0, none⟩) X.length c) ∧ IntsAt W2 g 0 X := he
      subst he'
      have HI := Lib.hid hI
      clear hI
      try clear he
      go_wp2_with fail
      go_ret2
      rw [HE.out, HR.out]
      exact .some HC2.out HI.out
  · have hq : (spansE t n l != 0) = true := by simpa using h0
    have H0 := Lib.hid (planE_err h0); clear h0
    go_wp2_with fail
    go_ret2
    rw [H0.out]
    exact .nil HC.out

set_option maxRecDepth 100000 in
set_option maxHeartbeats 1000000 in
theorem rPlans_any (t n : Int) (l : List Sp) (a : Option Addr) (cap : Nat) (w : World) (b off : Nat) (hs : SpansAt w b off l) (ha : l = [] ∨ a = some ⟨b, off, none⟩)
    (hfew : spansE t n l = 0 → (plans t.toNat n.toNat l).length ≤ 10000) :
    Calls Try.prog 25 #[.int .i64 t, .int .i64 n, .slice a l.length cap] w (CountPost (plansE t n l) w) := by
  have HS := Lib.hid hs; have HA := Lib.hid ha; have HFEW := Lib.hid hfew; clear hs ha hfew
  go_enter Try.func25, Try.ntmps25
  go_wp2_with fail
  refine (spans_any t n l a cap w b off HS.out HA.out).mono ?_
  rintro e w' ⟨rfl, x, rfl⟩
  have HC := Lib.hid (grow_chg w x)
  generalize w.grow x = W at HC ⊢
  by_cases h0 : spansE t n l = 0
  · have hfw := HFEW.out h0
    rw [h0]
    have hv := valid_of h0
    obtain ⟨T, rfl⟩ : ∃ T : Nat, t = T := ⟨t.toNat, by have := hv.t1; omega⟩
    obtain ⟨N, rfl⟩ : ∃ N : Nat, n = N := ⟨n.toNat, by have := hv.n1; omega⟩
    rw [Int.toNat_natCast, Int.toNat_natCast] at hfw
    have HE := Lib.hid (plansE_few h0 (by omega)); have HV := Lib.hid hv
    have hmany := fold_many (T := (T : Int)) (l := l) (plans T N l) ⟨none, 0, 0⟩
    obtain ⟨s, hsf⟩ : ∃ s, (plans T N l).foldl (refStep T l) ⟨none, 0, 0⟩ = s := ⟨_, rfl⟩
    rw [hsf] at hmany
    have HAL := Lib.hid (all_any T N l hv a cap b off W (HS.out.chg HC.out (fun x => x)) HA.out hfw)
    rw [hsf] at HAL
    dsimp only at hmany
    clear h0 hv hsf HFEW
    obtain ⟨sb, sl, sm⟩ := s
    dsimp only at hmany
    have hsm : sm ≤ 1000000 := by omega
    have hsm0 : 0 ≤ sm := by omega
    have dm : decide (1000000 < sm) = false := by rw [decide_eq_false_iff_not]; omega
    have HMM := Lib.hid hmany
    clear hmany hfw
    go_wp2_with fail
    refine HAL.out.mono ?_
    rintro e W1 ⟨fb, rfl, hF, hc1⟩
    obtain ⟨bv, hb, _⟩ := hF
    have q0 := hb.cell_some (i := 0) rfl
    have hfb := hb.lt
    have HC1 := Lib.hid (HC.out.trans hc1 (fun _ x => x.elim))
    clear hb hc1
    go_wp2_with fail
    go_ret2
    refine ⟨?_, HC1.out⟩
    rw [HE.out]
    have := HMM.out
    simp at this
    rw [this]
    rfl
  · have hq : (spansE t n l != 0) = true := by simpa using h0
    have H0 := Lib.hid (plansE_err h0); clear h0
    go_wp2_with fail
    go_ret2
    refine ⟨?_, HC.out⟩
    rw [H0.out]
    rfl

set_option maxRecDepth 100000 in
set_option maxHeartbeats 1000000 in
theorem rShortest_any (t n : Int) (l : List Sp) (a : Option Addr) (cap : Nat) (w : World) (b off : Nat) (hs : SpansAt w b off l) (ha : l = [] ∨ a = some ⟨b, off, none⟩)
    (hfew : spansE t n l = 0 → (plans t.toNat n.toNat l).length ≤ 10000) :
    Calls Try.prog 27 #[.int .i64 t, .int .i64 n, .slice a l.length cap] w (LPost3 (shortE t n l) w) := by
  have HS := Lib.hid hs; have HA := Lib.hid ha; have HFEW := Lib.hid hfew; clear hs ha hfew
  go_enter Try.func27, Try.ntmps27
  go_wp2_with fail
  refine (spans_any t n l a cap w b off HS.out HA.out).mono ?_
  rintro e w' ⟨rfl, x, rfl⟩
  have HC := Lib.hid (grow_chg w x)
  generalize w.grow x = W at HC ⊢
  by_cases h0 : spansE t n l = 0
  · have hfw := HFEW.out h0
    rw [h0]
    have hv := valid_of h0
    obtain ⟨T, rfl⟩ : ∃ T : Nat, t = T := ⟨t.toNat, by have := hv.t1; omega⟩
    obtain ⟨N, rfl⟩ : ∃ N : Nat, n = N := ⟨n.toNat, by have := hv.n1; omega⟩
    rw [Int.toNat_natCast, Int.toNat_natCast] at hfw
    have hE := shortE_fold h0 (by omega); have HV := Lib.hid hv
    have hmany := fold_many (T := (T : Int)) (l := l) (plans T N l) ⟨none, 0, 0⟩
    have hnone := fold_none (T := (T : Int)) (l := l) (plans T N l) ⟨none, 0, 0⟩ (by simp) (by simp)
    have HAL := Lib.hid (all_any T N l hv a cap b off W (HS.out.chg HC.out (fun x => x)) HA.out hfw)
    obtain ⟨s, hsf⟩ : ∃ s, (plans T N l).foldl (refStep T l) ⟨none, 0, 0⟩ = s := ⟨_, rfl⟩
    rw [hsf] at hmany HAL hE hnone
    have HE := Lib.hid hE
    clear h0 hv hsf HFEW hE
    obtain ⟨sb, sl, sm⟩ := s
    dsimp only at hmany HE hnone
    have hsm : sm ≤ 1000000 := by omega
    have hsm0 : 0 ≤ sm := by omega
    have dm : decide (1000000 < sm) = false := by rw [decide_eq_false_iff_not]; omega
    clear hmany hfw
    cases sb with
    | none =>
      obtain rfl : sm = 0 := hnone.1 rfl
      clear hnone dm
      go_wp2_with fail
      refine HAL.out.mono ?_
      rintro e W1 ⟨fb, rfl, hF, hc1⟩
      obtain ⟨bv, hb, _⟩ := hF
      have q0 := hb.cell_some (i := 0) rfl
      have hfb := hb.lt
      have HC1 := Lib.hid (HC.out.trans hc1 (fun _ x => x.elim))
      clear hb hc1
      go_wp2_with fail
      go_ret3
      exact .nil HE.out HC1.out
    | some X =>
      have hne : sm ≠ 0 := fun h => by have := hnone.2 h; cases this
      have dz : (sm == 0) = false := by simpa using hne
      clear hnone hne
      go_wp2_with fail
      refine HAL.out.mono ?_
      rintro e W1 ⟨fb, rfl, hF, hc1⟩
      obtain ⟨bv, hb, hbi⟩ := hF
      obtain ⟨g, c, rfl, hI, _⟩ := hbi
      have q0 := hb.cell_some (i := 0) rfl
      have q1 := hb.cell_some (i := 1) rfl
      have q2 := hb.cell_some (i := 2) rfl
      have hfb := hb.lt
      have HC1 := Lib.hid (HC.out.trans hc1 (fun _ x => x.elim))
      have HI := Lib.hid hI
      clear hb hc1 hI
      go_wp2_with fail
      go_quiet (fail)
      go_wp2_with fail
      go_ret3
      exact .some HE.out (HC1.out.drewN nq) HI.out
  · have hq : (spansE t n l != 0) = true := by simpa using h0
    have H0 := Lib.hid (shortE_err h0); clear h0
    go_wp2_with fail
    go_ret3
    exact .nil H0.out HC.out
end Go.Proofs.Ytgamekcjjpjnnaa
