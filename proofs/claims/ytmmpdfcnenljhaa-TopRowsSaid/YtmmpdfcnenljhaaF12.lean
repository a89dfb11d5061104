/- Value, Gates and Colourings of gardens of at most ten fences, walked. Their conditions are their premises. -/
import Derived.Test.YtmmpdfcnenljhaaF11
set_option linter.unusedVariables false
namespace Go.Proofs.Ytmmpdfcnenljhaa
open Go.RowKit

theorem point_any (x : Int) (w : World) (h1 : -20 ≤ x) (h2 : x ≤ 20) : Calls Try.prog 98 #[.int .i64 x] w fun e w' => e = .returned (.bool true) ∧ w' = w := by
  have d1 : decide (-20 ≤ x) = true := by simpa using h1
  have d2 : decide (x ≤ 20) = true := by simpa using h2
  go_enter Try.func98, Try.ntmps98
  go_wp2_with fail
  go_ret
  exact ⟨rfl, rfl⟩

/-- The polynomial of a garden at a point. -/
def tutte (N : Nat) (l : List Fe) (x y : Int) : Int := atV (polyV N l.length l) x y
def valueE (n : Int) (l : List Fe) (x y : Int) : Int × Int := if gardenE n l ≠ 0 then (0, gardenE n l) else (wrap64 (tutte n.toNat l x y), 0)
theorem valueE_err {n : Int} {l : List Fe} {x y : Int} (h : gardenE n l ≠ 0) : valueE n l x y = (0, gardenE n l) := by unfold valueE; rw [if_pos h]
theorem valueE_ok {N : Nat} {l : List Fe} {x y : Int} (h : gardenE N l = 0) : valueE N l x y = (wrap64 (tutte N l x y), 0) := by unfold valueE; rw [if_neg (by simp [h])]; rfl

set_option maxRecDepth 100000 in
set_option maxHeartbeats 1000000 in
theorem Value_any (n : Int) (l : List Fe) (x y : Int) (a : Option Addr) (cap b off : Nat) (w : World) (hs : FencesAt w b off l) (ha : l = [] ∨ a = some ⟨b, off, none⟩)
    (hl : gardenE n l = 0 → l.length ≤ 10) (hx1 : -20 ≤ x) (hx2 : x ≤ 20) (hy1 : -20 ≤ y) (hy2 : y ≤ 20) :
    Calls Try.prog 66 #[.int .i64 n, .slice a l.length cap, .int .i64 x, .int .i64 y] w fun e w' => e = .returned (.tuple #[.int .i64 (valueE n l x y).1, .int .i64 (valueE n l x y).2]) ∧ Chg (fun _ => False) w w' := by
  have HS := Lib.hid hs; have HA := Lib.hid ha; have HL := Lib.hid hl
  clear hs ha hl
  go_enter Try.func66, Try.ntmps66
  go_wp2_with fail
  refine (of_any n l a cap b off w HS.out HA.out).mono ?_
  rintro e w1 ⟨hc1, ⟨h0, rfl⟩ | ⟨h0, p, rfl, hp⟩⟩
  · have hq : (gardenE n l != 0) = true := by simpa using h0
    have HV := Lib.hid (valueE_err (x := x) (y := y) h0); have HC := Lib.hid hc1
    clear h0 hc1
    go_wp2_with fail
    go_ret2
    exact ⟨by rw [HV.out]; rfl, HC.out⟩
  · have hv := valid_of h0
    obtain ⟨N, rfl⟩ : ∃ N : Nat, n = N := ⟨n.toNat, by have := hv.n1; omega⟩
    have HL10 := Lib.hid (HL.out h0)
    have HVE := Lib.hid (valueE_ok (x := x) (y := y) h0); have HC := Lib.hid hc1; have HV := Lib.hid hv
    have HG : Hid (GF w1 p N l) := Lib.hid ⟨a, cap, b, off, HA.out, HS.out.chg hc1 (fun x => x), hp⟩
    clear h0 hc1 hp hv
    go_wp2_with fail
    refine (point_any x w1 hx1 hx2).mono ?_
    rintro e w2 ⟨rfl, rfl⟩
    go_wp2_with fail
    refine (point_any y w2 hy1 hy2).mono ?_
    rintro e w3 ⟨rfl, rfl⟩
    go_wp2_with fail
    refine (polynomial_any N l.length l p w3 rfl HL10.out HV.out HG.out).mono ?_
    rintro e w4 ⟨p4, rfl, hp4, hc4⟩
    have HP4 := Lib.hid hp4; have HC4 := Lib.hid (HC.out.trans hc4 (fun _ x => x.elim))
    clear hp4 hc4
    go_wp2_with fail
    refine (at_any _ p4 x y w4 HP4.out).mono ?_
    rintro e w5 ⟨rfl, rfl⟩
    go_wp2_with fail
    go_ret2
    exact ⟨by rw [HVE.out]; rfl, HC4.out⟩

set_option maxRecDepth 100000 in
set_option maxHeartbeats 1000000 in
theorem valued_any (n : Int) (l : List Fe) (x y : Int) (a : Option Addr) (cap b off : Nat) (w : World) (hs : FencesAt w b off l) (ha : l = [] ∨ a = some ⟨b, off, none⟩)
    (hl : gardenE n l = 0 → l.length ≤ 10) (hx1 : -20 ≤ x) (hx2 : x ≤ 20) (hy1 : -20 ≤ y) (hy2 : y ≤ 20) :
    Calls Try.prog 42 #[.int .i64 n, .slice a l.length cap, .int .i64 x, .int .i64 y] w fun e w' => e = .returned (.tuple #[.int .i64 (valueE n l x y).1, .int .i64 (valueE n l x y).2]) ∧ Chg (fun _ => False) w w' := by
  have HV := Lib.hid (Value_any n l x y a cap b off w hs ha hl hx1 hx2 hy1 hy2)
  clear hs ha hl
  go_enter Try.func42, Try.ntmps42
  go_wp2_with fail
  refine HV.out.mono ?_
  rintro e w1 ⟨rfl, hc⟩
  have HC := Lib.hid hc
  clear hc
  go_wp2_with fail
  go_ret2
  exact ⟨rfl, HC.out⟩

theorem valueE_snd (n : Int) (l : List Fe) (x y x' y' : Int) : (valueE n l x y).2 = (valueE n l x' y').2 := by
  unfold valueE
  split <;> rfl

theorem valueE_e (n : Int) (l : List Fe) (x y : Int) : (valueE n l x y).2 = gardenE n l := by
  unfold valueE
  by_cases h : gardenE n l = 0
  · rw [if_neg (by simpa using h), h]
  · rw [if_pos h]

set_option maxRecDepth 100000 in
set_option maxHeartbeats 1000000 in
theorem Gates_any (n : Int) (l : List Fe) (a : Option Addr) (cap b off : Nat) (w : World) (hs : FencesAt w b off l) (ha : l = [] ∨ a = some ⟨b, off, none⟩)
    (hl : gardenE n l = 0 → l.length ≤ 10) :
    Calls Try.prog 14 #[.int .i64 n, .slice a l.length cap] w fun e w' => e = .returned (.tuple #[.int .i64 (valueE n l 2 0).1, .int .i64 (valueE n l 0 2).1, .int .i64 (gardenE n l)]) ∧ Chg (fun _ => False) w w' := by
  have HE := Lib.hid (valueE_e n l 2 0)
  have HS := Lib.hid hs; have HA := Lib.hid ha; have HL := Lib.hid hl
  clear hs ha hl
  go_enter Try.func14, Try.ntmps14
  go_wp2_with fail
  refine (valued_any n l 2 0 a cap b off w HS.out HA.out HL.out (by omega) (by omega) (by omega) (by omega)).mono ?_
  rintro e w1 ⟨rfl, hc1⟩
  have HC := Lib.hid hc1
  clear hc1
  go_wp2_with fail
  refine (valued_any n l 0 2 a cap b off w1 (HS.out.chg HC.out (fun x => x)) HA.out HL.out (by omega) (by omega) (by omega) (by omega)).mono ?_
  rintro e w2 ⟨rfl, hc2⟩
  have HC2 := Lib.hid (HC.out.trans hc2 (fun _ x => x.elim))
  clear hc2
  go_wp2_with fail
  go_ret3
  exact ⟨by rw [← HE.out]; rfl, HC2.out⟩

theorem power_int (x k : Int) (w : World) (h0 : 0 ≤ k) (hk : k ≤ 1000) :
    Calls Try.prog 24 #[.int .i64 x, .int .i64 k] w fun e w' => e = .returned (.int .i64 (wrap64 (x ^ k.toNat))) ∧ w' = w := by
  obtain ⟨m, rfl⟩ := Int.eq_ofNat_of_zero_le h0
  exact power_any x m w (by omega)

theorem wrap_mul3 (a b t : Int) : wrap64 (wrap64 (wrap64 a * wrap64 b) * wrap64 t) = wrap64 (a * b * t) := by
  rw [wrap64_mul, wrap64_mul_r]
  have h1 : wrap64 a * wrap64 b * t = wrap64 a * (wrap64 b * t) := Int.mul_assoc _ _ _
  have h2 : a * (wrap64 b * t) = wrap64 b * (a * t) := by rw [← Int.mul_assoc, Int.mul_comm a, Int.mul_assoc]
  have h3 : b * (a * t) = a * b * t := by rw [← Int.mul_assoc, Int.mul_comm b]
  rw [h1, wrap64_mul, h2, wrap64_mul, h3]

/-- In how many ways the posts can be coloured, by the polynomial. -/
def colourV (N : Nat) (l : List Fe) (c : Int) : Int := c ^ (groupsV N l (allV l)).toNat * (-1) ^ (N - groupsV N l (allV l)).toNat * tutte N l (1 - c) 0

set_option maxRecDepth 100000 in
set_option maxHeartbeats 1000000 in
theorem Colourings_any (N : Nat) (l : List Fe) (c : Int) (a : Option Addr) (cap b off : Nat) (w : World) (hs : FencesAt w b off l) (ha : l = [] ∨ a = some ⟨b, off, none⟩)
    (h0 : gardenE N l = 0) (hl : l.length ≤ 10) (hc1 : 0 ≤ c) (hc2 : c ≤ 20) (hgp : 0 ≤ groupsV N l (allV l)) :
    Calls Try.prog 7 #[.int .i64 N, .slice a l.length cap, .int .i64 c] w fun e w' => e = .returned (.tuple #[.int .i64 (wrap64 (colourV N l c)), .int .i64 0]) ∧ Chg (fun _ => False) w w' := by
  have HS := Lib.hid hs; have HA := Lib.hid ha; have HL := Lib.hid hl; have H0 := Lib.hid h0; have HGP := Lib.hid hgp
  have HV := Lib.hid (valid_of h0)
  clear hs ha hl h0 hgp
  go_enter Try.func7, Try.ntmps7
  go_wp2_with fail
  refine (of_any N l a cap b off w HS.out HA.out).mono ?_
  rintro e w1 ⟨hc1, ⟨h0, rfl⟩ | ⟨h0, p, rfl, hp⟩⟩
  · exact absurd H0.out h0
  · have HC := Lib.hid hc1
    have HG : Hid (GF w1 p N l) := Lib.hid ⟨a, cap, b, off, HA.out, HS.out.chg hc1 (fun x => x), hp⟩
    have HP := Lib.hid hp
    clear h0 hc1 hp
    have d1 : decide (c < 0) = false := by simpa using hc1
    have d2 : decide (20 < c) = false := by simpa using hc2
    go_wp2_with fail
    refine (all_any N l a cap p w1 HV.out.len HP.out).mono ?_
    rintro e w2 ⟨rfl, hc2⟩
    have HP2 := Lib.hid (HP.out.chg hc2 (fun x => x)); have HC2 := Lib.hid (HC.out.trans hc2 (fun _ x => x.elim))
    have HG2 := Lib.hid (HG.out.chg hc2 (fun _ x => x))
    clear hc2
    have HLT := Lib.hid (allV_lt HV.out.len)
    go_wp2_with fail
    refine (groups_any N l a cap b off p (allV l) w2 HV.out (HS.out.chg HC2.out (fun x => x)) HA.out HP2.out (by have := HLT.out; omega)).mono ?_
    rintro e w3 ⟨rfl, hc3⟩
    have HC3 := Lib.hid (HC2.out.trans hc3 (fun _ x => x.elim))
    have HG3 := Lib.hid (HG2.out.chg hc3 (fun _ x => x))
    clear hc3
    obtain ⟨G, hG⟩ : ∃ G : Nat, groupsV N l (allV l) = G := ⟨(groupsV N l (allV l)).toNat, by have := HGP.out; omega⟩
    have HGE := Lib.hid hG
    have hGN : G ≤ N := by have := (groupsV_bounds N l (allV l)).2; omega
    have hN8 : N ≤ 8 := by have := HV.out.n2; omega
    rw [hG]
    clear hG
    go_wp2_with fail
    refine (power_int c G w3 (by omega) (by omega)).mono ?_
    rintro e w4 ⟨rfl, rfl⟩
    generalize hp1 : wrap64 (c ^ (G : Int).toNat) = P1
    have HP1 := Lib.hid hp1
    clear hp1
    go_wp2_with fail
    refine (power_int (-1) (N - G) w4 (by omega) (by omega)).mono ?_
    rintro e w5 ⟨rfl, rfl⟩
    generalize hp2 : wrap64 ((-1) ^ ((N : Int) - G).toNat) = P2
    have HP2 := Lib.hid hp2
    clear hp2
    go_wp2_with fail
    refine (polynomial_any N l.length l p w5 rfl HL.out HV.out HG3.out).mono ?_
    rintro e w6 ⟨p6, rfl, hp6, hc6⟩
    have HP6 := Lib.hid hp6; have HC6 := Lib.hid (HC3.out.trans hc6 (fun _ x => x.elim))
    clear hp6 hc6
    go_wp2_with fail
    refine (at_any _ p6 (1 - c) 0 w6 HP6.out).mono ?_
    rintro e w7 ⟨rfl, rfl⟩
    generalize hp3 : wrap64 (atV (polyV N l.length l) (1 - c) 0) = P3
    have HP3 := Lib.hid hp3
    clear hp3
    go_wp2_with fail
    go_ret2
    refine ⟨?_, HC6.out⟩
    have e1 : wrap64 (colourV N l c) = wrap64 (wrap64 (P1 * P2) * P3) := by
      unfold colourV
      rw [HGE.out, ← HP1.out, ← HP2.out, ← HP3.out]
      exact (wrap_mul3 _ _ _).symm
    rw [e1]
    rfl
end Go.Proofs.Ytmmpdfcnenljhaa
