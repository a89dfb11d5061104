/- The reference's Ring, walked: it returns the same ring, or error. Its conditions are its premises. -/
import Derived.Test.YtgamekcjjpjnnaaA19
set_option linter.unusedVariables false
namespace Go.Proofs.Ytgamekcjjpjnnaa
open Go.RowKit

theorem rring_any (T N : Nat) (l : List Sp) (hv : Valid T N l) (b off L : Nat) (a : Option Addr) (cap : Nat) (ha : l = [] ∨ a = some ⟨b, off, none⟩) (hL : L ≤ N) (hL2 : 2 ≤ L) : ∀ (m : Nat) (R : List Int) (br cr : Nat) (w : World),
    SpansAt w b off l → R.length + m = L → 1 ≤ R.length → IntsAt w br 0 R → R.length ≤ cr → Chain l R R.length →
    Calls Try.prog 48 #[.int .i64 T, .slice a l.length cap, .int .i64 L, .slice (some ⟨br, 0, none⟩) R.length cr] w (RefPost (ringSearch T l m R) w) := by
  intro m
  induction m with
  | zero =>
    intro R br cr w hs hm h1 hR hcr hch
    obtain rfl : L = R.length := by omega
    exact rring_leaf T N l hv b off a cap ha R br cr w hs hL2 hR hch
  | succ m ih =>
    intro R br cr w hs hm h1 hR hcr hch
    refine rring_step T N l hv b off L a cap ha hL m R br cr w hs hm h1 hR hcr hch ?_
    intro k g c w' hok hs' hR' hc
    refine ih (R ++ [k]) g c w' hs' (by simp; omega) (by simp) hR' hc (hch.snoc hok)

theorem rring_from (T N : Nat) (l : List Sp) (hv : Valid T N l) (b off L : Nat) (a : Option Addr) (cap : Nat) (ha : l = [] ∨ a = some ⟨b, off, none⟩) (hL : L ≤ N) (hL2 : 2 ≤ L) (w : World) (hs : SpansAt w b off l) :
    Calls Try.prog 48 #[.int .i64 T, .slice a l.length cap, .int .i64 L, .slice none 0 0] w (RefPost (ringSearch T l L []) w) := by
  obtain ⟨m, rfl⟩ : ∃ m, L = m + 1 := ⟨L - 1, by omega⟩
  refine rring_top T N l hv b off (m + 1) a cap ha m w hs (by omega) ?_
  intro k g c w' hok hs' hR' hc
  exact rring_any T N l hv b off (m + 1) a cap ha hL hL2 m [k] g c w' hs' (by simp; omega) (by simp) hR' hc (by have := (Chain.zero (l := l) (R := [])).snoc (k := k) hok; exact this)

theorem LPost.nil {w w' : World} {e : Int} (hc : Chg (fun _ => False) w w') : LPost ([], e) w (.returned (.tuple #[.slice none 0 0, .int .i64 e])) w' :=
  ⟨none, 0, 0, rfl, .inl rfl, fun k hk => by simp at hk, hc⟩
theorem LPost.some {w w' : World} {e : Int} {X : List Int} {g c : Nat} (hc : Chg (fun _ => False) w w') (hI : IntsAt w' g 0 X) : LPost (X, e) w (.returned (.tuple #[.slice (some ⟨g, 0, none⟩) X.length c, .int .i64 e])) w' :=
  ⟨_, c, g, rfl, .inr rfl, hI, hc⟩

set_option maxRecDepth 100000 in
set_option maxHeartbeats 2000000 in
theorem rRing_any (t n : Int) (l : List Sp) (a : Option Addr) (cap : Nat) (w : World) (b off : Nat) (hs : SpansAt w b off l) (ha : l = [] ∨ a = some ⟨b, off, none⟩) :
    Calls Try.prog 18 #[.int .i64 t, .int .i64 n, .slice a l.length cap] w (LPost (ringE t n l) w) := by
  have hneq : ∀ (w : World) (a : Option Addr) (n c n' c' : Nat), (binOp .neq 25 (.slice a n c) (.slice none n' c')).run Try.prog w = .ok (.bool (!a.isNone)) w := fun w a n c n' c' => run_neq_slice_nil_any w 25 3 a n c n' c' Try.underlying25
  have HS := Lib.hid hs; have HA := Lib.hid ha; clear hs ha
  go_enter Try.func18, Try.ntmps18
  go_wp2_with fail
  refine (spans_any t n l a cap w b off HS.out HA.out).mono ?_
  rintro e w' ⟨rfl, x, rfl⟩
  have HC := Lib.hid (grow_chg w x)
  generalize w.grow x = W at HC ⊢
  by_cases h0 : spansE t n l = 0
  · rw [h0]
    have hv := valid_of h0
    obtain ⟨T, rfl⟩ : ∃ T : Nat, t = T := ⟨t.toNat, by have := hv.t1; omega⟩
    obtain ⟨N, rfl⟩ : ∃ N : Nat, n = N := ⟨n.toNat, by have := hv.n1; omega⟩
    have H0 := Lib.hid h0; have HV := Lib.hid hv
    have hn2 := hv.n2
    clear h0 hv
    go_wp2_with fail
    go_loopg [9] N (fun g iv wr => ∃ i : Nat, i ≤ N ∧ g = N - i ∧ iv = .int .i64 ((i : Int) + 2) ∧ Chg (fun _ => False) w wr ∧ ∀ j, j < i → ringSearch T l (j + 2) [] = none)
    case atStart => exact ⟨0, by omega, by omega, rfl, HC.out, fun j hj => by omega⟩
    case round =>
      obtain ⟨i, hiN, rfl, rfl, hcg, hno⟩ := hrel
      have HNO := Lib.hid hno; have HCG := Lib.hid hcg
      clear hno hcg
      by_cases hin : i + 2 ≤ N
      · have dd : decide ((i : Int) + 2 ≤ (N : Int)) = true := by rw [decide_eq_true_eq]; omega
        have HIN := Lib.hid hin; clear hin
        obtain ⟨r1, hr1⟩ : ∃ r1, ringSearch T l (i + 2) [] = r1 := ⟨_, rfl⟩
        go_wp2_with fail
        refine (rring_from T N l HV.out b off (i + 2) a cap HA.out HIN.out (by omega) wr (HS.out.chg HCG.out (fun x => x))).mono ?_
        rw [hr1]
        rintro e w' ⟨hc4, he⟩
        have HR1 := Lib.hid hr1
        have HC4 := Lib.hid (HCG.out.trans hc4 (fun _ x => x.elim))
        clear hc4 hr1
        cases r1 with
        | none =>
          obtain rfl : e = .returned (.slice none 0 0) := he
          try clear he
          go_wp2_with fail
          go_roundg (N - (i + 1))
          case measure => have := HIN.out; omega
          case rel => exact ⟨i + 1, by have := HIN.out; omega, rfl, by go_num, HC4.out, fun j hj => by
            rcases Nat.lt_succ_iff_lt_or_eq.1 hj with h' | rfl
            · exact HNO.out j h'
            · exact HR1.out⟩
        | some X =>
          obtain ⟨g, c, he', hI⟩ : ∃ g c, e = .returned (.slice (some ⟨g, 0, none⟩) X.length c) ∧ IntsAt w' g 0 X := he
          subst he'
          have HI := Lib.hid hI
          have HE := Lib.hid (ringE_some H0.out (by have := HIN.out; omega) HNO.out HR1.out)
          clear hI
          try clear he
          go_wp2_with fail
          go_ret2
          rw [HE.out]
          exact .some HC4.out HI.out
      · have dd : decide ((i : Int) + 2 ≤ (N : Int)) = false := by rw [decide_eq_false_iff_not]; omega
        have HE := Lib.hid (ringE_none H0.out (fun j hj => HNO.out j (by omega)))
        clear hin
        go_wp2_with fail
        go_ret2
        rw [HE.out]
        exact .nil HCG.out
  · have hq : (spansE t n l != 0) = true := by simpa using h0
    have H0 := Lib.hid (ringE_err h0); clear h0
    go_wp2_with fail
    go_ret2
    rw [H0.out]
    exact .nil HC.out
end Go.Proofs.Ytgamekcjjpjnnaa
