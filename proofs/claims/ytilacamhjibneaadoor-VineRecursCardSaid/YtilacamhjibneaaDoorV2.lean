/- A vine and a shoot are looked at: Letters; of, shot; Vine, Shoot. Their conditions are their premises. -/
import Derived.Test.YtilacamhjibneaaDoorV1
set_option linter.unusedVariables false
namespace Go.Proofs.YtilacamhjibneaaDoor
open Go.RowKit

set_option maxRecDepth 100000 in
set_option maxHeartbeats 400000 in
theorem rletters_any (ao : Option Addr) (n cap : Nat) (s : ByteArray) (w : World) (hn : n ≤ 1000) (hs : s.size ≤ 200000) :
    Calls Tryd.prog 78 #[.slice ao n cap, .string s] w fun e w' => e = .returned (.bool (okS n s)) ∧ w' = w := by
  go_enter Tryd.func78, Tryd.ntmps78
  go_wp2_with fail
  go_loopg [5] s.size (fun gm iv wr => ∃ i : Nat, i ≤ s.size ∧ gm = s.size - i ∧ iv = .int .i64 i ∧ okT n s i = true ∧ wr = w)
  case atStart => exact ⟨0, by omega, by omega, rfl, rfl, rfl⟩
  case round =>
    obtain ⟨i, hi, rfl, rfl, hok, rfl⟩ := hrel
    have HOK := Lib.hid hok
    clear hok
    by_cases hlt : i < s.size
    · have hidx := index_byte s hlt
      have hc256 := byteAt_lt s i
      have HB := Lib.hid (fun (h : okC n (byteAt s i) = false) => okT_bad h hlt)
      have HT := Lib.hid (show okT n s (i + 1) = (okT n s i && okC n (byteAt s i)) from rfl)
      obtain ⟨c, hc⟩ : ∃ c, byteAt s i = c := ⟨_, rfl⟩
      rw [hc] at hc256 HB HT
      simp only [hc] at hidx
      clear hc
      have di : decide ((i : Int) < (s.size : Int)) = true := by simpa using hlt
      by_cases h1 : c < 97
      · have d1 : decide ((c : Int) < 97) = true := by simp; omega
        have HF := Lib.hid (HB.out (by unfold okC; rw [decide_eq_false (by omega)]; rfl))
        clear h1
        go_wp2_with fail
        go_ret
        exact ⟨by unfold okS; rw [HF.out]; rfl, rfl⟩
      · have d1 : decide ((c : Int) < 97) = false := by simp; omega
        have hsub := u8_sub (by omega) hc256
        by_cases h2 : n ≤ c - 97
        · have d2 : decide ((n : Int) ≤ (c : Int) - 97) = true := by simp; omega
          have HF := Lib.hid (HB.out (by unfold okC; rw [decide_eq_false (show ¬ c < 97 + n by omega), Bool.and_false]))
          clear h1 h2
          go_wp2_with fail
          go_ret
          exact ⟨by unfold okS; rw [HF.out]; rfl, rfl⟩
        · have d2 : decide ((n : Int) ≤ (c : Int) - 97) = false := by simp; omega
          have HF := Lib.hid (HT.out.trans (show (okT n s i && okC n c) = true by rw [HOK.out]; unfold okC; rw [decide_eq_true (show 97 ≤ c by omega), decide_eq_true (show c < 97 + n by omega)]; rfl))
          clear h1 h2
          go_wp2_with fail
          go_roundg (s.size - (i + 1))
          case measure => omega
          case rel => exact ⟨i + 1, by omega, rfl, by go_num, HF.out, rfl⟩
    · obtain rfl : i = s.size := by omega
      go_wp2_with fail
      go_ret
      exact ⟨by unfold okS; rw [HOK.out]; rfl, rfl⟩

/-- The cells of a list of strings. -/
def StrsAt (w : World) (b off : Nat) (P : List ByteArray) : Prop := ∀ k (h : k < P.length), w.cell? ⟨b, off + k, none⟩ = some (.string P[k])
theorem StrsAt.chg {S : Nat → Prop} {w w' : World} {b off : Nat} {P : List ByteArray} (h : StrsAt w b off P) (hc : Chg S w w') (hn : ¬ S b) : StrsAt w' b off P := fun k hk => hc.cell_some (h k hk) hn

def okPart (n : Nat) (p : ByteArray) : Bool := decide (p.size ≤ 8) && okS n p
def prT (P : List ByteArray) : Nat → Bool
  | 0 => true
  | k + 1 => prT P k && okPart P.length (P[k]?.getD ⟨#[]⟩)
theorem prT_bad {P : List ByteArray} {i : Nat} (hb : okPart P.length (P[i]?.getD ⟨#[]⟩) = false) : ∀ {k : Nat}, i < k → prT P k = false
  | 0, h => by omega
  | k + 1, h => by
    rw [prT]
    by_cases hk : i = k
    · subst hk; rw [hb, Bool.and_false]
    · rw [prT_bad hb (show i < k by omega), Bool.false_and]
theorem prT_at {P : List ByteArray} : ∀ {k : Nat}, prT P k = true → ∀ i, i < k → okPart P.length (P[i]?.getD ⟨#[]⟩) = true
  | 0, _, i, hi => by omega
  | k + 1, h, i, hi => by
    rw [prT, Bool.and_eq_true] at h
    by_cases hk : i = k
    · subst hk; exact h.2
    · exact prT_at h.1 i (by omega)
/-- The error of a vine, and of a vine and a shoot. -/
def errV (P : List ByteArray) : Nat := if P.length < 1 ∨ 6 < P.length then 2 else if prT P P.length = true then 0 else 5
def okShoot (n : Nat) (s : ByteArray) : Bool := decide (s.size ≤ 30) && okS n s
def errS (P : List ByteArray) (s : ByteArray) : Nat := if errV P ≠ 0 then errV P else if okShoot P.length s = true then 0 else 5
def ofV (ao : Option Addr) (cap : Nat) (P : List ByteArray) : Value := if errV P = 0 then .tuple #[.slice ao P.length cap, .int .i64 0] else .tuple #[.slice none 0 0, .int .i64 (errV P : Nat)]
def shotV (ao : Option Addr) (cap : Nat) (P : List ByteArray) (s : ByteArray) : Value := if errS P s = 0 then .tuple #[.slice ao P.length cap, .int .i64 0] else .tuple #[.slice none 0 0, .int .i64 (errS P s : Nat)]

set_option maxRecDepth 100000 in
set_option maxHeartbeats 1000000 in
theorem of_any (P : List ByteArray) (ao : Option Addr) (cap b off : Nat) (w : World) (hs : StrsAt w b off P) (ha : P = [] ∨ ao = some ⟨b, off, none⟩) (hn : P.length ≤ 1000) (hz : ∀ p ∈ P, p.size ≤ 1000) :
    Calls Tryd.prog 65 #[.slice ao P.length cap] w fun e w' => e = .returned (ofV ao cap P) ∧ w' = w := by
  have HS := Lib.hid hs; have HA := Lib.hid ha; have HZ := Lib.hid hz
  clear hs ha hz
  by_cases h1 : P.length < 1
  · have d1 : decide ((P.length : Int) < 1) = true := by simp; omega
    have HV : Hid (ofV ao cap P = .tuple #[.slice none 0 0, .int .i64 2]) := Lib.hid (by
      have he : errV P = 2 := by unfold errV; rw [if_pos (by omega)]
      unfold ofV
      rw [he]
      rfl)
    clear h1
    go_enter Tryd.func65, Tryd.ntmps65
    go_wp2_with fail
    go_ret2
    exact ⟨by rw [HV.out]; rfl, rfl⟩
  · have d1 : decide ((P.length : Int) < 1) = false := by simp; omega
    by_cases h2 : 6 < P.length
    · have d2 : decide ((6 : Int) < (P.length : Int)) = true := by simp; omega
      have HV : Hid (ofV ao cap P = .tuple #[.slice none 0 0, .int .i64 2]) := Lib.hid (by
        have he : errV P = 2 := by unfold errV; rw [if_pos (by omega)]
        unfold ofV
        rw [he]
        rfl)
      clear h1 h2
      go_enter Tryd.func65, Tryd.ntmps65
      go_wp2_with fail
      go_ret2
      exact ⟨by rw [HV.out]; rfl, rfl⟩
    · have d2 : decide ((6 : Int) < (P.length : Int)) = false := by simp; omega
      have HE : Hid (errV P = if prT P P.length = true then 0 else 5) := Lib.hid (by unfold errV; rw [if_neg (by omega)])
      have hpos : 0 < P.length := by omega
      clear h1 h2
      have hne : P ≠ [] := by intro h; subst h; simp at hpos
      obtain rfl := HA.out.resolve_left hne
      clear HA hne
      go_enter Tryd.func65, Tryd.ntmps65
      go_wp2_with fail
      go_loopg [18] P.length (fun gm iv wr => ∃ i : Nat, i ≤ P.length ∧ gm = P.length - i ∧ iv = .int .i64 i ∧ prT P i = true ∧ wr = w)
      case atStart => exact ⟨0, by omega, by omega, rfl, rfl, rfl⟩
      case round =>
        obtain ⟨i, hi, rfl, rfl, hok, rfl⟩ := hrel
        have HOK := Lib.hid hok
        clear hok
        by_cases hlt : i < P.length
        · have di : decide (i < P.length) = true := by simpa using hlt
          have c0 := HS.out i hlt
          have hz := HZ.out _ (List.getElem_mem hlt)
          have hg : P[i]?.getD ⟨#[]⟩ = P[i] := by rw [List.getElem?_eq_getElem hlt]; rfl
          have HB := Lib.hid (fun (h : okPart P.length (P[i]?.getD ⟨#[]⟩) = false) => prT_bad h hlt)
          have HT := Lib.hid (show prT P (i + 1) = (prT P i && okPart P.length (P[i]?.getD ⟨#[]⟩)) from rfl)
          rw [hg] at HB HT
          obtain ⟨p, hp⟩ : ∃ p, P[i] = p := ⟨_, rfl⟩
          rw [hp] at c0 hz HB HT
          clear hp hg
          by_cases h3 : 8 < p.size
          · have d3 : decide ((8 : Int) < (p.size : Int)) = true := by simp; omega
            have HF := Lib.hid (HB.out (by unfold okPart; rw [decide_eq_false (by omega)]; rfl))
            have HV : Hid (ofV (some ⟨b, off, none⟩) cap P = .tuple #[.slice none 0 0, .int .i64 5]) := Lib.hid (by
              have he : errV P = 5 := by rw [HE.out, HF.out]; rfl
              unfold ofV
              rw [he]
              rfl)
            clear h3
            go_wp2_with fail
            go_ret2
            exact ⟨by rw [HV.out]; rfl, rfl⟩
          · have d3 : decide ((8 : Int) < (p.size : Int)) = false := by simp; omega
            have HD := Lib.hid (show decide (p.size ≤ 8) = true by simp; omega)
            have HSH := Lib.hid (shoots_any (some ⟨b, off, none⟩) P.length cap p wr hn (by omega))
            obtain ⟨ok, hk⟩ : ∃ ok, okS P.length p = ok := ⟨_, rfl⟩
            have HK := Lib.hid hk
            rw [hk] at HSH
            clear hk h3
            go_wp2_with fail
            refine HSH.out.mono ?_
            rintro e w1 ⟨rfl, rfl⟩
            cases ok with
            | false =>
              have HF := Lib.hid (HB.out (by unfold okPart; rw [HK.out, Bool.and_false]))
              have HV : Hid (ofV (some ⟨b, off, none⟩) cap P = .tuple #[.slice none 0 0, .int .i64 5]) := Lib.hid (by
                have he : errV P = 5 := by rw [HE.out, HF.out]; rfl
                unfold ofV
                rw [he]
                rfl)
              go_wp2_with fail
              go_ret2
              exact ⟨by rw [HV.out]; rfl, rfl⟩
            | true =>
              have HF := Lib.hid (HT.out.trans (by unfold okPart; rw [HOK.out, HK.out, HD.out]; rfl : _ = true))
              go_wp2_with fail
              go_roundg (P.length - (i + 1))
              case measure => omega
              case rel => exact ⟨i + 1, by omega, rfl, by go_num, HF.out, rfl⟩
        · obtain rfl : i = P.length := by omega
          have HV : Hid (ofV (some ⟨b, off, none⟩) cap P = .tuple #[.slice (some ⟨b, off, none⟩) P.length cap, .int .i64 0]) := Lib.hid (by
            have he : errV P = 0 := by rw [HE.out, HOK.out]; rfl
            unfold ofV
            rw [he]
            rfl)
          go_wp2_with fail
          go_ret2
          exact ⟨by rw [HV.out]; rfl, rfl⟩

set_option maxRecDepth 100000 in
set_option maxHeartbeats 1000000 in
theorem rvine_any (P : List ByteArray) (ao : Option Addr) (cap b off : Nat) (w : World) (hs : StrsAt w b off P) (ha : P = [] ∨ ao = some ⟨b, off, none⟩) (hn : P.length ≤ 1000) (hz : ∀ p ∈ P, p.size ≤ 1000) :
    Calls Tryd.prog 46 #[.slice ao P.length cap] w fun e w' => e = .returned (.int .i64 (errV P : Nat)) ∧ w' = w := by
  have HS := Lib.hid hs; have HA := Lib.hid ha; have HZ := Lib.hid hz
  clear hs ha hz
  by_cases h1 : P.length < 1
  · have d1 : decide ((P.length : Int) < 1) = true := by simp; omega
    have HV : Hid (errV P = 2) := Lib.hid (by unfold errV; rw [if_pos (by omega)])
    clear h1
    go_enter Tryd.func46, Tryd.ntmps46
    go_wp2_with fail
    go_ret
    exact ⟨by rw [HV.out]; rfl, rfl⟩
  · have d1 : decide ((P.length : Int) < 1) = false := by simp; omega
    by_cases h2 : 6 < P.length
    · have d2 : decide ((6 : Int) < (P.length : Int)) = true := by simp; omega
      have HV : Hid (errV P = 2) := Lib.hid (by unfold errV; rw [if_pos (by omega)])
      clear h1 h2
      go_enter Tryd.func46, Tryd.ntmps46
      go_wp2_with fail
      go_ret
      exact ⟨by rw [HV.out]; rfl, rfl⟩
    · have d2 : decide ((6 : Int) < (P.length : Int)) = false := by simp; omega
      have HE : Hid (errV P = if prT P P.length = true then 0 else 5) := Lib.hid (by unfold errV; rw [if_neg (by omega)])
      have hpos : 0 < P.length := by omega
      clear h1 h2
      have hne : P ≠ [] := by intro h; subst h; simp at hpos
      obtain rfl := HA.out.resolve_left hne
      clear HA hne
      go_enter Tryd.func46, Tryd.ntmps46
      go_wp2_with fail
      go_loopg [3] P.length (fun gm iv wr => ∃ i : Nat, i ≤ P.length ∧ gm = P.length - i ∧ iv = .int .i64 i ∧ prT P i = true ∧ wr = w)
      case atStart => exact ⟨0, by omega, by omega, rfl, rfl, rfl⟩
      case round =>
        obtain ⟨i, hi, rfl, rfl, hok, rfl⟩ := hrel
        have HOK := Lib.hid hok
        clear hok
        by_cases hlt : i < P.length
        · have di : decide ((i : Int) < (P.length : Int)) = true := by simpa using hlt
          have c0 := HS.out i hlt
          have hz := HZ.out _ (List.getElem_mem hlt)
          have hg : P[i]?.getD ⟨#[]⟩ = P[i] := by rw [List.getElem?_eq_getElem hlt]; rfl
          have HB := Lib.hid (fun (h : okPart P.length (P[i]?.getD ⟨#[]⟩) = false) => prT_bad h hlt)
          have HT := Lib.hid (show prT P (i + 1) = (prT P i && okPart P.length (P[i]?.getD ⟨#[]⟩)) from rfl)
          rw [hg] at HB HT
          obtain ⟨p, hp⟩ : ∃ p, P[i] = p := ⟨_, rfl⟩
          rw [hp] at c0 hz HB HT
          clear hp hg
          by_cases h3 : 8 < p.size
          · have d3 : decide ((8 : Int) < (p.size : Int)) = true := by simp; omega
            have HF := Lib.hid (HB.out (by unfold okPart; rw [decide_eq_false (by omega)]; rfl))
            have HV : Hid (errV P = 5) := Lib.hid (by rw [HE.out, HF.out]; rfl)
            clear h3
            go_wp2_with fail
            go_ret
            exact ⟨by rw [HV.out]; rfl, rfl⟩
          · have d3 : decide ((8 : Int) < (p.size : Int)) = false := by simp; omega
            have HD := Lib.hid (show decide (p.size ≤ 8) = true by simp; omega)
            have HSH := Lib.hid (rletters_any (some ⟨b, off, none⟩) P.length cap p wr hn (by omega))
            obtain ⟨ok, hk⟩ : ∃ ok, okS P.length p = ok := ⟨_, rfl⟩
            have HK := Lib.hid hk
            rw [hk] at HSH
            clear hk h3
            go_wp2_with fail
            refine HSH.out.mono ?_
            rintro e w1 ⟨rfl, rfl⟩
            cases ok with
            | false =>
              have HF := Lib.hid (HB.out (by unfold okPart; rw [HK.out, Bool.and_false]))
              have HV : Hid (errV P = 5) := Lib.hid (by rw [HE.out, HF.out]; rfl)
              go_wp2_with fail
              go_ret
              exact ⟨by rw [HV.out]; rfl, rfl⟩
            | true =>
              have HF := Lib.hid (HT.out.trans (by unfold okPart; rw [HOK.out, HK.out, HD.out]; rfl : _ = true))
              go_wp2_with fail
              go_roundg (P.length - (i + 1))
              case measure => omega
              case rel => exact ⟨i + 1, by omega, rfl, by go_num, HF.out, rfl⟩
        · obtain rfl : i = P.length := by omega
          have HV : Hid (errV P = 0) := Lib.hid (by rw [HE.out, HOK.out]; rfl)
          go_wp2_with fail
          go_ret
          exact ⟨by rw [HV.out]; rfl, rfl⟩

set_option maxRecDepth 100000 in
set_option maxHeartbeats 400000 in
theorem shot_any (P : List ByteArray) (s : ByteArray) (ao : Option Addr) (cap b off : Nat) (w : World) (hs : StrsAt w b off P) (ha : P = [] ∨ ao = some ⟨b, off, none⟩) (hn : P.length ≤ 1000) (hz : ∀ p ∈ P, p.size ≤ 1000) (hzs : s.size ≤ 1000) :
    Calls Tryd.prog 51 #[.slice ao P.length cap, .string s] w fun e w' => e = .returned (shotV ao cap P s) ∧ w' = w := by
  have HO := Lib.hid (of_any P ao cap b off w hs ha hn hz)
  have HSH := Lib.hid (shoots_any ao P.length cap s w hn (by omega))
  clear hs ha hz
  by_cases he : errV P = 0
  · have HOV := Lib.hid (show ofV ao cap P = .tuple #[.slice ao P.length cap, .int .i64 0] by unfold ofV; rw [if_pos he])
    rw [HOV.out] at HO
    have HE : Hid (errS P s = if okShoot P.length s = true then 0 else 5) := Lib.hid (by unfold errS; rw [if_neg (by simpa using he)])
    clear he
    go_enter Tryd.func51, Tryd.ntmps51
    go_wp2_with fail
    refine HO.out.mono ?_
    rintro e w1 ⟨rfl, rfl⟩
    by_cases h3 : 30 < s.size
    · have d3 : decide ((30 : Int) < (s.size : Int)) = true := by simp; omega
      have HV : Hid (shotV ao cap P s = .tuple #[.slice none 0 0, .int .i64 5]) := Lib.hid (by
        have h : errS P s = 5 := by rw [HE.out]; unfold okShoot; rw [decide_eq_false (by omega)]; rfl
        unfold shotV; rw [h]; rfl)
      clear h3
      go_wp2_with fail
      go_ret2
      exact ⟨by rw [HV.out]; rfl, rfl⟩
    · have d3 : decide ((30 : Int) < (s.size : Int)) = false := by simp; omega
      have HD := Lib.hid (show decide (s.size ≤ 30) = true by simp; omega)
      obtain ⟨ok, hk⟩ : ∃ ok, okS P.length s = ok := ⟨_, rfl⟩
      have HK := Lib.hid hk
      rw [hk] at HSH
      clear hk h3
      go_wp2_with fail
      refine HSH.out.mono ?_
      rintro e w1 ⟨rfl, rfl⟩
      cases ok with
      | false =>
        have HV : Hid (shotV ao cap P s = .tuple #[.slice none 0 0, .int .i64 5]) := Lib.hid (by
          have h : errS P s = 5 := by rw [HE.out]; unfold okShoot; rw [HK.out, Bool.and_false]; rfl
          unfold shotV; rw [h]; rfl)
        go_wp2_with fail
        go_ret2
        exact ⟨by rw [HV.out]; rfl, rfl⟩
      | true =>
        have HV : Hid (shotV ao cap P s = .tuple #[.slice ao P.length cap, .int .i64 0]) := Lib.hid (by
          have h : errS P s = 0 := by rw [HE.out]; unfold okShoot; rw [HK.out, HD.out]; rfl
          unfold shotV; rw [h]; rfl)
        go_wp2_with fail
        go_ret2
        exact ⟨by rw [HV.out]; rfl, rfl⟩
  · have HOV := Lib.hid (show ofV ao cap P = .tuple #[.slice none 0 0, .int .i64 (errV P : Nat)] by unfold ofV; rw [if_neg he])
    rw [HOV.out] at HO
    have HV : Hid (shotV ao cap P s = .tuple #[.slice none 0 0, .int .i64 (errV P : Nat)]) := Lib.hid (by
      have h : errS P s = errV P := by unfold errS; rw [if_pos he]
      unfold shotV; rw [h, if_neg he])
    have dn : (((errV P : Nat) : Int) != 0) = true := by simpa using he
    obtain ⟨E, hE⟩ : ∃ E, errV P = E := ⟨_, rfl⟩
    rw [hE] at HO HV dn
    clear he hE HOV
    go_enter Tryd.func51, Tryd.ntmps51
    go_wp2_with fail
    refine HO.out.mono ?_
    rintro e w1 ⟨rfl, rfl⟩
    go_wp2_with fail
    go_ret2
    exact ⟨by rw [HV.out]; rfl, rfl⟩

set_option maxRecDepth 100000 in
set_option maxHeartbeats 400000 in
theorem rshoot_any (P : List ByteArray) (s : ByteArray) (ao : Option Addr) (cap b off : Nat) (w : World) (hs : StrsAt w b off P) (ha : P = [] ∨ ao = some ⟨b, off, none⟩) (hn : P.length ≤ 1000) (hz : ∀ p ∈ P, p.size ≤ 1000) (hzs : s.size ≤ 1000) :
    Calls Tryd.prog 36 #[.slice ao P.length cap, .string s] w fun e w' => e = .returned (.int .i64 (errS P s : Nat)) ∧ w' = w := by
  have HO := Lib.hid (rvine_any P ao cap b off w hs ha hn hz)
  have HSH := Lib.hid (rletters_any ao P.length cap s w hn (by omega))
  clear hs ha hz
  by_cases he : errV P = 0
  · rw [he] at HO
    have HE : Hid (errS P s = if okShoot P.length s = true then 0 else 5) := Lib.hid (by unfold errS; rw [if_neg (by simpa using he)])
    clear he
    go_enter Tryd.func36, Tryd.ntmps36
    go_wp2_with fail
    refine HO.out.mono ?_
    rintro e w1 ⟨rfl, rfl⟩
    by_cases h3 : 30 < s.size
    · have d3 : decide ((30 : Int) < (s.size : Int)) = true := by simp; omega
      have HV : Hid (errS P s = 5) := Lib.hid (by rw [HE.out]; unfold okShoot; rw [decide_eq_false (by omega)]; rfl)
      clear h3
      go_wp2_with fail
      go_ret
      exact ⟨by rw [HV.out]; rfl, rfl⟩
    · have d3 : decide ((30 : Int) < (s.size : Int)) = false := by simp; omega
      have HD := Lib.hid (show decide (s.size ≤ 30) = true by simp; omega)
      obtain ⟨ok, hk⟩ : ∃ ok, okS P.length s = ok := ⟨_, rfl⟩
      have HK := Lib.hid hk
      rw [hk] at HSH
      clear hk h3
      go_wp2_with fail
      refine HSH.out.mono ?_
      rintro e w1 ⟨rfl, rfl⟩
      cases ok with
      | false =>
        have HV : Hid (errS P s = 5) := Lib.hid (by rw [HE.out]; unfold okShoot; rw [HK.out, Bool.and_false]; rfl)
        go_wp2_with fail
        go_ret
        exact ⟨by rw [HV.out]; rfl, rfl⟩
      | true =>
        have HV : Hid (errS P s = 0) := Lib.hid (by rw [HE.out]; unfold okShoot; rw [HK.out, HD.out]; rfl)
        go_wp2_with fail
        go_ret
        exact ⟨by rw [HV.out]; rfl, rfl⟩
  · have HV : Hid (errS P s = errV P) := Lib.hid (by unfold errS; rw [if_pos he])
    have dn : (((errV P : Nat) : Int) == 0) = false := by simpa using he
    obtain ⟨E, hE⟩ : ∃ E, errV P = E := ⟨_, rfl⟩
    rw [hE] at HO HV dn
    clear he hE
    go_enter Tryd.func36, Tryd.ntmps36
    go_wp2_with fail
    refine HO.out.mono ?_
    rintro e w1 ⟨rfl, rfl⟩
    go_wp2_with fail
    go_ret
    exact ⟨by rw [HV.out]; rfl, rfl⟩
end Go.Proofs.YtilacamhjibneaaDoor
