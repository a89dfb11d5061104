/- Shortest, walked. Its conditions are its premises. -/
import Derived.Test.YtgamekcjjpjnnaaA30
set_option linter.unusedVariables false
namespace Go.Proofs.Ytgamekcjjpjnnaa
open Go.RowKit

/-- What Shortest answers. -/
def shortE (t n : Int) (l : List Sp) : List Int × Int × Int :=
  if spansE t n l ≠ 0 then ([], 0, spansE t n l) else
    if (runV (bestStep t l) (plans t.toNat n.toNat l) ⟨none, 0, 0⟩).1 = true then ([], 0, 8) else
      match (runV (bestStep t l) (plans t.toNat n.toNat l) ⟨none, 0, 0⟩).2.best with
      | none => ([], 0, 10)
      | some X => (X, (runV (bestStep t l) (plans t.toNat n.toNat l) ⟨none, 0, 0⟩).2.least, 0)

/-- A list, a number and an error, in new memory. -/
def LPost3 (r : List Int × Int × Int) (w : World) (e : Ending) (w' : World) : Prop :=
  ∃ ao c g, e = .returned (.tuple #[.slice ao r.1.length c, .int .i64 r.2.1, .int .i64 r.2.2]) ∧ (r.1 = [] ∨ ao = some ⟨g, 0, none⟩) ∧ IntsAt w' g 0 r.1 ∧ Chg (fun _ => False) w w'

theorem LPost3.nil {r : List Int × Int × Int} {w w' : World} {s e : Int} (h : r = ([], s, e)) (hc : Chg (fun _ => False) w w') : LPost3 r w (.returned (.tuple #[.slice none 0 0, .int .i64 s, .int .i64 e])) w' := by
  subst h
  exact ⟨none, 0, 0, rfl, .inl rfl, fun k hk => by simp at hk, hc⟩
theorem LPost3.some {r : List Int × Int × Int} {w w' : World} {s e : Int} {X : List Int} {g c : Nat} (h : r = (X, s, e)) (hc : Chg (fun _ => False) w w') (hI : IntsAt w' g 0 X) :
    LPost3 r w (.returned (.tuple #[.slice (some ⟨g, 0, none⟩) X.length c, .int .i64 s, .int .i64 e])) w' := by
  subst h
  exact ⟨_, c, g, rfl, .inr rfl, hI, hc⟩

theorem shortE_err {t n : Int} {l : List Sp} (h : spansE t n l ≠ 0) : shortE t n l = ([], 0, spansE t n l) := by unfold shortE; rw [if_pos h]

set_option maxRecDepth 100000 in
set_option maxHeartbeats 2000000 in
theorem Shortest_any (t n : Int) (l : List Sp) (a : Option Addr) (cap : Nat) (w : World) (b off : Nat) (hs : SpansAt w b off l) (ha : l = [] ∨ a = some ⟨b, off, none⟩) :
    Calls Try.prog 26 #[.int .i64 t, .int .i64 n, .slice a l.length cap] w (LPost3 (shortE t n l) w) := by
  have hmf : ∀ (fn : Fn) (first cap : Array Value) (w : World), (Instr.makeFunc fn first cap).run Try.prog w = .ok (.func fn first cap) w := fun _ _ _ _ => rfl
  have heql : ∀ (w : World) (a : Option Addr) (l c : Nat), (binOp .eql 25 (.slice a l c) (.slice none 0 0)).run Try.prog w = .ok (.bool a.isNone) w := fun w a l c => Lib.run_eql_slice_nil w 25 3 a l c 0 0 Try.underlying25
  have HS := Lib.hid hs; have HA := Lib.hid ha; clear hs ha
  go_enter Try.func26, Try.ntmps26
  go_wp2_with fail
  refine (of_any t n l a cap w b off HS.out HA.out).mono ?_
  rintro e w' ⟨⟨x, rfl⟩, ⟨h0, rfl⟩ | ⟨h0, p, rfl, hp, hsz⟩⟩
  · have hq : (spansE t n l != 0) = true := by simpa using h0
    have H0 := Lib.hid (shortE_err h0); have HC := Lib.hid ((grow_chg w x).alloc (Obj.cells #[Value.pointer none] 54)); clear h0
    go_wp2_with fail
    go_ret3
    exact .nil H0.out HC.out
  · have hv := valid_of h0
    obtain ⟨T, rfl⟩ : ∃ T : Nat, t = T := ⟨t.toNat, by have := hv.t1; omega⟩
    obtain ⟨N, rfl⟩ : ∃ N : Nat, n = N := ⟨n.toNat, by have := hv.n1; omega⟩
    have H0 := Lib.hid h0; have HV := Lib.hid hv; have HP := Lib.hid hp
    clear h0 hv hp
    have hc0 := grow_chg w x
    have HC0 := Lib.hid hc0
    obtain ⟨b2, off2, hs2, ha2, hb2⟩ : ∃ b2 off2, SpansAt (w.grow x) b2 off2 l ∧ (l = [] ∨ a = some ⟨b2, off2, none⟩) ∧ b2 < (w.grow x).heap.size := by
      by_cases hl : l = []
      · subst hl
        exact ⟨p, 0, fun k hk => by simp at hk, .inl rfl, World.cell_lt HP.out.1⟩
      · refine ⟨b, off, HS.out.chg hc0 (fun x => x), HA.out, ?_⟩
        have h1 : 0 < l.length := by cases l with | nil => exact absurd rfl hl | cons => simp
        exact World.cell_lt (HS.out.chg hc0 (fun x => x) 0 h1).1
    have HS2 := Lib.hid hs2; have HA2 := Lib.hid ha2
    clear hc0 hs2 ha2
    generalize w.grow x = W at HC0 HP HS2 hb2 ⊢
    have hpb : p < W.heap.size := World.cell_lt HP.out.1
    go_wp2_with fail
    have hb1 := (((Blk.new W #[Value.pointer (some ⟨p, 0, none⟩)] 54).alloc (Obj.cells #[Value.slice none 0 0] 25)).alloc (Obj.cells #[Value.int IntKind.i64 0] 3)).alloc (Obj.cells #[Value.int IntKind.i64 0] 3)
    have hb2' := ((Blk.new (W.alloc (Obj.cells #[Value.pointer (some ⟨p, 0, none⟩)] 54)) #[Value.slice none 0 0] 25).alloc (Obj.cells #[Value.int IntKind.i64 0] 3)).alloc (Obj.cells #[Value.int IntKind.i64 0] 3)
    have hb3 := (Blk.new ((W.alloc (Obj.cells #[Value.pointer (some ⟨p, 0, none⟩)] 54)).alloc (Obj.cells #[Value.slice none 0 0] 25)) #[Value.int IntKind.i64 0] 3).alloc (Obj.cells #[Value.int IntKind.i64 0] 3)
    have hb4 := Blk.new (((W.alloc (Obj.cells #[Value.pointer (some ⟨p, 0, none⟩)] 54)).alloc (Obj.cells #[Value.slice none 0 0] 25)).alloc (Obj.cells #[Value.int IntKind.i64 0] 3)) #[Value.int IntKind.i64 0] 3
    have hc1 : Chg (fun _ => False) W ((((W.alloc (Obj.cells #[Value.pointer (some ⟨p, 0, none⟩)] 54)).alloc (Obj.cells #[Value.slice none 0 0] 25)).alloc (Obj.cells #[Value.int IntKind.i64 0] 3)).alloc (Obj.cells #[Value.int IntKind.i64 0] 3)) := ((((Chg.refl _ W).alloc _).alloc _).alloc _).alloc _
    simp only [World.size_alloc] at hb2' hb3 hb4
    generalize ((((W.alloc (Obj.cells #[Value.pointer (some ⟨p, 0, none⟩)] 54)).alloc (Obj.cells #[Value.slice none 0 0] 25)).alloc (Obj.cells #[Value.int IntKind.i64 0] 3)).alloc (Obj.cells #[Value.int IntKind.i64 0] 3)) = W1 at hb1 hb2' hb3 hb4 hc1 ⊢
    obtain ⟨Hs, hHs⟩ : ∃ Hs, W.heap.size = Hs := ⟨_, rfl⟩
    rw [hHs] at hb1 hb2' hb3 hb4 hb2 hpb ⊢
    have hz4 := hb4.lt
    have hV := bestV_ok T N l a cap b2 off2 p Hs (Hs + 1) (Hs + 1 + 1) (Hs + 1 + 1 + 1) W1.heap.size HV.out HA2.out (by omega) (by omega) (by omega)
    refine (each_any (bestV T N l a cap b2 off2 p Hs (Hs + 1) (Hs + 1 + 1) (Hs + 1 + 1 + 1)) T N l ⟨none, 0, 0⟩ p b2 off2 a cap W1 hV (HS2.out.chg hc1 (fun x => x)) HA2.out HV.out (HP.out.chg hc1 (fun x => x))
      (fun bh ha _ _ => ⟨hb1.cell_some rfl, HP.out.chg hc1 (fun x => x), HS2.out.chg hc1 (fun x => x), hb3, hb4, hb2'⟩) (by intro h; rcases h with h | h | h <;> omega)).mono ?_
    rintro e w' ⟨he, ⟨bh, ha, e1, e2, hI⟩, hc2⟩
    have hcc : Chg (fun _ => False) w w' := (HC0.out.trans hc1 (fun _ x => x.elim)).trans hc2 (fun k hk => .inr (by have := HC0.out.size; rcases hk with h | h | h <;> omega))
    have hI' : BestInv T N l a cap b2 off2 p Hs (Hs + 1) (Hs + 1 + 1) (Hs + 1 + 1 + 1) bh ha (runV (bestStep T l) (plans T N l) ⟨none, 0, 0⟩).2 w' := hI
    have he' : e = .returned (.bool (runV (bestStep T l) (plans T N l) ⟨none, 0, 0⟩).1) := he
    have hE : shortE (T : Int) (N : Int) l = if (runV (bestStep T l) (plans T N l) ⟨none, 0, 0⟩).1 = true then (([] : List Int), (0 : Int), (8 : Int)) else match (runV (bestStep T l) (plans T N l) ⟨none, 0, 0⟩).2.best with
      | none => ([], 0, 10)
      | some X => (X, (runV (bestStep T l) (plans T N l) ⟨none, 0, 0⟩).2.least, 0) := by
      unfold shortE
      rw [if_neg (by simpa using H0.out), Int.toNat_natCast, Int.toNat_natCast]
    obtain ⟨rb, rs, hr⟩ : ∃ rb rs, runV (bestStep T l) (plans T N l) ⟨none, 0, 0⟩ = (rb, rs) := ⟨_, _, rfl⟩
    rw [hr] at hI' he' hE
    dsimp only at hI' he' hE
    subst he'
    have HCC := Lib.hid hcc
    obtain ⟨sb, sl, sm⟩ := rs
    have HI2 := Lib.hid hI'
    have hbest := hI'.best
    have hleast := hI'.least
    clear hI hc2 hcc hr hV hb1 hb2' hb3 hb4 hc1 he hI' hb2 hHs
    cases rb with
    | true =>
      have HE := Lib.hid hE
      clear hE hbest hleast
      go_wp2_with fail
      go_ret3
      exact .nil (by rw [HE.out]; rfl) HCC.out
    | false =>
      have q1 := hleast.cell_some (i := 0) rfl
      cases sb with
      | none =>
        have hbn : Blk w' (Hs + 1) 25 [.slice none 0 0] := hbest
        have q0 := hbn.cell_some (i := 0) rfl
        have HE := Lib.hid hE
        clear hE hbest hbn hleast
        go_wp2_with fail
        go_ret3
        exact .nil (by rw [HE.out]; rfl) HCC.out
      | some X =>
        obtain ⟨g, c2, k1, k2, _⟩ := hbest
        have q0 := k1.cell_some (i := 0) rfl
        have HE := Lib.hid hE
        have K2 := Lib.hid k2
        clear hE k1 k2 hleast
        go_wp2_with fail
        go_quiet (fail)
        go_wp2_with fail
        go_ret3
        exact .some (by rw [HE.out]; rfl) (HCC.out.drewN nq) (K2.out.chg ((Chg.refl (fun _ => False) w').drewN nq) (fun x => x))
end Go.Proofs.Ytgamekcjjpjnnaa
