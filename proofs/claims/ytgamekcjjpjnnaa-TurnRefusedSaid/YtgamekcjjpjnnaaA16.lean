/- turn.Ring, walked: it returns the first ring that refuses, or an error. Its conditions are its premises. -/
import Derived.Test.YtgamekcjjpjnnaaA15
set_option linter.unusedVariables false
namespace Go.Proofs.Ytgamekcjjpjnnaa
open Go.RowKit

theorem ring_from (T N : Nat) (l : List Sp) (hv : Valid T N l) (bl bf bp bs bo p b off L : Nat) (a : Option Addr) (cap : Nat) (ha : l = [] ∨ a = some ⟨b, off, none⟩) (hL : L ≤ N) (hL2 : 2 ≤ L) (w : World)
    (hK : RLook w bl bf bp bs bo p b off L T N a cap l) (h2 : bl ≠ bf) (h3 : bp ≠ bf) (h4 : bs ≠ bf) (h5 : bo ≠ bf) (h6 : p ≠ bf) (h7 : b ≠ bf) :
    Calls Try.prog 44 #[.slice none 0 0, .int .i64 0, .int .i64 0, .int .i64 0, .int .i64 0, .int .i64 0,
      .pointer (some ⟨bl, 0, none⟩), .pointer (some ⟨bf, 0, none⟩), .pointer (some ⟨bp, 0, none⟩), .pointer (some ⟨bs, 0, none⟩), .pointer (some ⟨bo, 0, none⟩)] w (RPost (ringSearch T l L []) bf w) := by
  obtain ⟨m, rfl⟩ : ∃ m, L = m + 1 := ⟨L - 1, by omega⟩
  refine ring_top T N l hv bl bf bp bs bo p b off (m + 1) a cap ha hL m w hK rfl (by omega) h2 h3 h4 h5 h6 h7 ?_
  intro k g c w' hok hK' hR' hg hc
  have h := ring_any T N l hv bl bf bp bs bo p b off (m + 1) a cap ha hL hL2 h2 h3 h4 h5 h6 h7 m [k] g c w' hK' (by simp; omega) (by simp) hR' (by simpa using hc) hg (by have := (Chain.zero (l := l) (R := [])).snoc (k := k) hok; exact this)
  have e0 : hr [k] 0 = k := rfl
  simp only [List.length_singleton, Nat.sub_self, e0, seenN, sumLo, sumHi, Int.zero_add, Nat.zero_or] at h
  exact h

theorem ringE_err {t n : Int} {l : List Sp} (h : spansE t n l ≠ 0) : ringE t n l = ([], spansE t n l) := by unfold ringE; rw [if_pos h]
theorem ringE_none {T N : Nat} {l : List Sp} (h : spansE (T : Int) (N : Int) l = 0) (hn : ∀ j, j < N - 1 → ringSearch T l (j + 2) [] = none) : ringE (T : Int) (N : Int) l = ([], 10) := by
  unfold ringE
  rw [if_neg (by simpa using h), Int.toNat_natCast, Int.toNat_natCast, findSome_range_none hn]
theorem ringE_some {T N i : Nat} {l : List Sp} {X : List Int} (h : spansE (T : Int) (N : Int) l = 0) (hi : i < N - 1) (hn : ∀ j, j < i → ringSearch T l (j + 2) [] = none) (hs : ringSearch T l (i + 2) [] = some X) : ringE (T : Int) (N : Int) l = (X, 0) := by
  unfold ringE
  rw [if_neg (by simpa using h), Int.toNat_natCast, Int.toNat_natCast, findSome_range hi hn hs]

theorem spans_at {w : World} {b off : Nat} {l : List Sp} {a : Option Addr} (hs : SpansAt w b off l) (ha : l = [] ∨ a = some ⟨b, off, none⟩) (x : Nat) (hx : l ≠ [] → b ≠ x) :
    ∃ b2 off2, SpansAt w b2 off2 l ∧ (l = [] ∨ a = some ⟨b2, off2, none⟩) ∧ b2 ≠ x := by
  by_cases hl : l = []
  · subst hl
    exact ⟨x + 1, 0, fun k hk => by simp at hk, .inl rfl, by omega⟩
  · exact ⟨b, off, hs, ha, hx hl⟩

/-- A list and an error, in new memory. -/
def LPost (r : List Int × Int) (w : World) (e : Ending) (w' : World) : Prop :=
  ∃ ao c g, e = .returned (.tuple #[.slice ao r.1.length c, .int .i64 r.2]) ∧ (r.1 = [] ∨ ao = some ⟨g, 0, none⟩) ∧ IntsAt w' g 0 r.1 ∧ Chg (fun _ => False) w w'

set_option maxRecDepth 100000 in
set_option maxHeartbeats 2000000 in
theorem Ring_any (t n : Int) (l : List Sp) (a : Option Addr) (cap : Nat) (w : World) (b off : Nat) (hs : SpansAt w b off l) (ha : l = [] ∨ a = some ⟨b, off, none⟩) :
    Calls Try.prog 17 #[.int .i64 t, .int .i64 n, .slice a l.length cap] w (LPost (ringE t n l) w) := by
  have hmf : ∀ (fn : Fn) (first cap : Array Value) (w : World), (Instr.makeFunc fn first cap).run Try.prog w = .ok (.func fn first cap) w := fun _ _ _ _ => rfl
  have HS := Lib.hid hs; have HA := Lib.hid ha; clear hs ha
  go_enter Try.func17, Try.ntmps17
  go_wp2_with fail
  have hc0 : Chg (fun _ => False) w (w.alloc (Obj.cells #[Value.slice a l.length cap] 22)) := (Chg.refl _ w).alloc _
  have HSP := Lib.hid (Blk.new w #[Value.slice a l.length cap] 22)
  have hsz0 : (w.alloc (Obj.cells #[Value.slice a l.length cap] 22)).heap.size = w.heap.size + 1 := by simp
  have HC0 := Lib.hid hc0; have HZ0 := Lib.hid hsz0; clear hc0 hsz0
  generalize (w.alloc (Obj.cells #[Value.slice a l.length cap] 22)) = W0 at HC0 HSP HZ0 ⊢
  refine (of_any t n l a cap W0 b off (HS.out.chg HC0.out (fun x => x)) HA.out).mono ?_
  rintro e w' ⟨⟨x, rfl⟩, ⟨h0, rfl⟩ | ⟨h0, p, rfl, hp, hsz⟩⟩
  · have hq : (spansE t n l != 0) = true := by simpa using h0
    have H0 := Lib.hid (ringE_err h0); clear h0
    have HW := Lib.hid (HC0.out.grow x)
    go_wp2_with fail
    go_ret2
    rw [H0.out]
    exact ⟨none, 0, 0, rfl, .inl rfl, fun k hk => by simp at hk, HW.out.alloc _⟩
  · have hv := valid_of h0
    obtain ⟨T, rfl⟩ : ∃ T : Nat, t = T := ⟨t.toNat, by have := hv.t1; omega⟩
    obtain ⟨N, rfl⟩ : ∃ N : Nat, n = N := ⟨n.toNat, by have := hv.n1; omega⟩
    have hc1 : Chg (fun _ => False) w (W0.grow x) := HC0.out.grow x
    have HBS := Lib.hid (HSP.out.grow x)
    have H0 := Lib.hid h0; have HV := Lib.hid hv; have HP := Lib.hid hp
    have hz1 := (W0.grow_below x).size
    clear h0 hv hp
    generalize W0.grow x = W1 at hc1 HBS HP hz1 ⊢
    have hpb : p < W1.heap.size := World.cell_lt HP.out.1
    have hsz1 := HZ0.out
    have HC1 := Lib.hid hc1; clear hc1
    have hn2 := HV.out.n2
    go_wp2_with fail
    have hc2 : Chg (fun _ => False) W1 ((W1.alloc (Obj.cells #[Value.pointer (some ⟨p, 0, none⟩)] 54)).alloc (Obj.cells #[Value.int IntKind.i64 2] 3)) := ((Chg.refl _ W1).alloc _).alloc _
    have hb1 := (Blk.new W1 #[Value.pointer (some ⟨p, 0, none⟩)] 54).alloc (Obj.cells #[Value.int IntKind.i64 2] 3)
    have hb2 := Blk.new (W1.alloc (Obj.cells #[Value.pointer (some ⟨p, 0, none⟩)] 54)) #[Value.int IntKind.i64 2] 3
    rw [show (W1.alloc (Obj.cells #[Value.pointer (some ⟨p, 0, none⟩)] 54)).heap.size = W1.heap.size + 1 by simp] at hb2
    have HC2 := Lib.hid hc2; have HB1 := Lib.hid hb1; have HB2 := Lib.hid hb2
    clear hc2 hb1 hb2
    generalize ((W1.alloc (Obj.cells #[Value.pointer (some ⟨p, 0, none⟩)] 54)).alloc (Obj.cells #[Value.int IntKind.i64 2] 3)) = W2 at HC2 HB1 HB2 ⊢
    clear HSP HZ0 hsz1
    go_loopg [10] N (fun g bv wr => ∃ i bl : Nat, i ≤ N ∧ g = N - i ∧ bv = .pointer (some ⟨bl, 0, none⟩) ∧ W1.heap.size < bl ∧ Blk wr bl 3 [.int .i64 ((i : Int) + 2)] ∧ Blk wr W1.heap.size 54 [.pointer (some ⟨p, 0, none⟩)] ∧ Chg (fun _ => False) W1 wr ∧ ∀ j, j < i → ringSearch T l (j + 2) [] = none)
    case atStart => exact ⟨0, W1.heap.size + 1, by omega, by omega, rfl, by omega, HB2.out, HB1.out, HC2.out, fun j hj => by omega⟩
    case round =>
      obtain ⟨i, bl, hiN, rfl, rfl, hbl, hbb, hbp, hcg, hno⟩ := hrel
      have g0 := hbb.cell_some (i := 0) rfl
      have HNO := Lib.hid hno; have HBB := Lib.hid hbb; have HBP := Lib.hid hbp; have HCG := Lib.hid hcg
      have hlt := hbb.lt
      clear hno hbb hbp hcg
      by_cases hin : i + 2 ≤ N
      · have dd : decide ((i : Int) + 2 ≤ (N : Int)) = true := by rw [decide_eq_true_eq]; omega
        have HIN := Lib.hid hin; clear hin
        go_wp2_with fail
        obtain ⟨b2, off2, hs2, ha2, hb2⟩ := spans_at (HS.out.chg (HC1.out.trans HCG.out (fun _ x => x.elim)) (fun x => x)) HA.out wr.heap.size (fun h => by have := World.cell_lt ((HS.out.chg (HC1.out.trans HCG.out (fun _ x => x.elim)) (fun x => x)) 0 (by cases l with | nil => exact absurd rfl h | cons => simp)).1; exact Nat.ne_of_lt this)
        obtain ⟨r1, hr1⟩ : ∃ r1, ringSearch T l (i + 2) [] = r1 := ⟨_, rfl⟩
        have hc3 : Chg (fun _ => False) wr ((wr.alloc (Obj.cells #[Value.slice none 0 0] 25)).alloc (Obj.cells #[Value.func (Fn.func 44) #[] #[Value.pointer (some ⟨bl, 0, none⟩), Value.pointer (some ⟨wr.heap.size, 0, none⟩), Value.pointer (some ⟨W1.heap.size, 0, none⟩), Value.pointer (some ⟨w.heap.size, 0, none⟩), Value.pointer (some ⟨wr.heap.size + 1, 0, none⟩)]] 57)) := ((Chg.refl _ wr).alloc _).alloc _
        have hn1 := (Blk.new wr #[Value.slice none 0 0] 25).alloc (Obj.cells #[Value.func (Fn.func 44) #[] #[Value.pointer (some ⟨bl, 0, none⟩), Value.pointer (some ⟨wr.heap.size, 0, none⟩), Value.pointer (some ⟨W1.heap.size, 0, none⟩), Value.pointer (some ⟨w.heap.size, 0, none⟩), Value.pointer (some ⟨wr.heap.size + 1, 0, none⟩)]] 57)
        have hn2 := Blk.new (wr.alloc (Obj.cells #[Value.slice none 0 0] 25)) #[Value.func (Fn.func 44) #[] #[Value.pointer (some ⟨bl, 0, none⟩), Value.pointer (some ⟨wr.heap.size, 0, none⟩), Value.pointer (some ⟨W1.heap.size, 0, none⟩), Value.pointer (some ⟨w.heap.size, 0, none⟩), Value.pointer (some ⟨wr.heap.size + 1, 0, none⟩)]] 57
        rw [show (wr.alloc (Obj.cells #[Value.slice none 0 0] 25)).heap.size = wr.heap.size + 1 by simp] at hn2
        have HW1 := Lib.hid (show w.heap.size < W1.heap.size from by have := HBS.out.lt; exact this)
        have HW2 := HBP.out.lt
        generalize ((wr.alloc (Obj.cells #[Value.slice none 0 0] 25)).alloc (Obj.cells #[Value.func (Fn.func 44) #[] #[Value.pointer (some ⟨bl, 0, none⟩), Value.pointer (some ⟨wr.heap.size, 0, none⟩), Value.pointer (some ⟨W1.heap.size, 0, none⟩), Value.pointer (some ⟨w.heap.size, 0, none⟩), Value.pointer (some ⟨wr.heap.size + 1, 0, none⟩)]] 57)) = W3 at hc3 hn1 hn2 ⊢
        have hcw := HCG.out.trans hc3 (fun _ x => x.elim)
        have hw3 := hn2.lt
        have hRL : RLook W3 bl wr.heap.size W1.heap.size w.heap.size (wr.heap.size + 1) p b2 off2 (i + 2) T N a cap l :=
          ⟨hc3.cell_some g0 (fun x => x), ⟨_, hn1⟩, (hc3.blk HBP.out (fun x => x)).cell_some rfl, (hcw.blk HBS.out (fun x => x)).cell_some rfl, hn2.cell_some rfl, HP.out.chg hcw (fun x => x), hs2.chg hc3 (fun x => x)⟩
        have hw1 := HW1.out
        refine (ring_from T N l HV.out bl wr.heap.size W1.heap.size w.heap.size (wr.heap.size + 1) p b2 off2 (i + 2) a cap ha2 HIN.out (by omega) W3 hRL (by omega) (by omega) (by omega) (by omega) (by omega) hb2).mono ?_
        rw [hr1]
        rintro e w' ⟨rfl, hc4, ⟨v4, hb4⟩, hsome⟩
        have hc5 : Chg (fun _ => False) wr w' := hc3.trans hc4 (fun k hk => .inr (by have : k = wr.heap.size := hk; omega))
        have HR1 := Lib.hid hr1; have HSOME := Lib.hid hsome
        have g0' := hc5.cell_some g0 (fun x => x)
        have HC5 := Lib.hid hc5
        have HBP5 := Lib.hid (hc5.blk HBP.out (fun x => x))
        clear hc3 hn1 hn2 hcw hw3 hRL hw1 hc4 hb4 hsome hr1 hc5 g0 hs2 ha2 hb2 HW2
        cases r1 with
        | none =>
          clear HSOME
          have hwr : wrap64 ((i : Int) + 2 + 1) = (i : Int) + 2 + 1 := by have := HIN.out; unfold wrap64; omega
          have HWR := Lib.hid hwr; clear hwr
          have hi9 : i ≤ 6 := by have := HIN.out; omega
          go_wp2_with fail
          go_roundg (N - (i + 1))
          case measure => have := HIN.out; omega
          case rel => exact ⟨i + 1, w'.heap.size, by have := HIN.out; omega, rfl, rfl, HBP5.out.lt, by rw [show (((i + 1 : Nat) : Int) + 2) = (i : Int) + 2 + 1 by omega]; exact Blk.new w' #[Value.int IntKind.i64 ((i : Int) + 2 + 1)] 3, HBP5.out.alloc _, (HCG.out.trans HC5.out (fun _ x => x.elim)).alloc _, fun j hj => by
            rcases Nat.lt_succ_iff_lt_or_eq.1 hj with h' | rfl
            · exact HNO.out j h'
            · exact HR1.out⟩
        | some X =>
          obtain ⟨g, c, k1, k2⟩ := HSOME.out X rfl
          have q0 := k1.cell_some (i := 0) rfl
          have HE := Lib.hid (ringE_some H0.out (by have := HIN.out; omega) HNO.out HR1.out)
          have K2 := Lib.hid k2
          clear k1 k2 HSOME
          go_wp2_with fail
          go_ret2
          rw [HE.out]
          exact ⟨_, c, g, rfl, .inr rfl, K2.out, HC1.out.trans (HCG.out.trans HC5.out (fun _ x => x.elim)) (fun _ x => x.elim)⟩
      · have dd : decide ((i : Int) + 2 ≤ (N : Int)) = false := by rw [decide_eq_false_iff_not]; omega
        have HE := Lib.hid (ringE_none H0.out (fun j hj => HNO.out j (by omega)))
        clear hin
        go_wp2_with fail
        go_ret2
        rw [HE.out]
        exact ⟨none, 0, 0, rfl, .inl rfl, fun k hk => by simp at hk, HC1.out.trans HCG.out (fun _ x => x.elim)⟩
end Go.Proofs.Ytgamekcjjpjnnaa
