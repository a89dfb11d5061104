/- Strings of letters: shoots and Letters. Their conditions are their premises. -/
import Derived.Test.YtilacamhjibneaaDoorBase
set_option linter.unusedVariables false
namespace Go.Proofs.YtilacamhjibneaaDoor
open Go.RowKit

def byteAt (s : ByteArray) (i : Nat) : Nat := (s.data.toList[i]?.getD 0).toNat
theorem byteAt_lt (s : ByteArray) (i : Nat) : byteAt s i < 256 := UInt8.toNat_lt _
theorem index_byte (s : ByteArray) {i : Nat} (h : i < s.size) (w : World) : (Instr.index 9 (.string s) (.int .i64 (i : Int))).run Tryd.prog w = .ok (.int .u8 (byteAt s i : Int)) w := by
  rw [run_index_string w 9 _ .i64 _ Tryd.underlying9, dif_pos ⟨by omega, by omega⟩]
  have h' : i < s.data.toList.length := by simpa using h
  congr 2
  unfold byteAt
  rw [List.getElem?_eq_getElem h']
  simp [ByteArray.getElem_eq_getElem_data]

/-- Is a byte one of the first n letters? -/
def okC (n c : Nat) : Bool := decide (97 ≤ c) && decide (c < 97 + n)
def okT (n : Nat) (s : ByteArray) : Nat → Bool
  | 0 => true
  | k + 1 => okT n s k && okC n (byteAt s k)
def okS (n : Nat) (s : ByteArray) : Bool := okT n s s.size
theorem okT_at {n : Nat} {s : ByteArray} : ∀ {k : Nat}, okT n s k = true → ∀ i, i < k → okC n (byteAt s i) = true
  | 0, _, i, hi => by omega
  | k + 1, h, i, hi => by
    rw [okT, Bool.and_eq_true] at h
    by_cases hk : i = k
    · subst hk; exact h.2
    · exact okT_at h.1 i (by omega)
theorem okT_bad {n : Nat} {s : ByteArray} {i : Nat} (hb : okC n (byteAt s i) = false) : ∀ {k : Nat}, i < k → okT n s k = false
  | 0, h => by omega
  | k + 1, h => by
    rw [okT]
    by_cases hk : i = k
    · subst hk; rw [hb, Bool.and_false]
    · rw [okT_bad hb (show i < k by omega), Bool.false_and]
theorem u8_sub {c : Nat} (h1 : 97 ≤ c) (h2 : c < 256) : IntKind.u8.wrap ((c : Int) - 97) = (c : Int) - 97 := by
  simp [IntKind.wrap, IntKind.bits, IntKind.signed]
  omega

set_option maxRecDepth 100000 in
set_option maxHeartbeats 400000 in
theorem shoots_any (ao : Option Addr) (n cap : Nat) (s : ByteArray) (w : World) (hn : n ≤ 1000) (hs : s.size ≤ 200000) :
    Calls Tryd.prog 82 #[.slice ao n cap, .string s] w fun e w' => e = .returned (.bool (okS n s)) ∧ w' = w := by
  go_enter Tryd.func82, Tryd.ntmps82
  go_wp2_with fail
  go_loopg [8] s.size (fun gm iv wr => ∃ i : Nat, i ≤ s.size ∧ gm = s.size - i ∧ iv = .int .i64 i ∧ okT n s i = true ∧ wr = w)
  case atStart => exact ⟨0, by omega, by omega, rfl, rfl, rfl⟩
  case round =>
    obtain ⟨i, hi, rfl, rfl, hok, rfl⟩ := hrel
    have HOK := Lib.hid hok
    clear hok
    by_cases hlt : i < s.size
    · have hidx := index_byte s hlt
      have hc256 := byteAt_lt s i
      have HB := Lib.hid (fun (h : okC n (byteAt s i) = false) => okT_bad h hlt)
      have HT := Lib.hid (show okT n s (i + 1) = (okT n s i && okC n (byteAt s i)) from rfl)
      obtain ⟨c, hc⟩ : ∃ c, byteAt s i = c := ⟨_, rfl⟩
      rw [hc] at hc256 HB HT
      simp only [hc] at hidx
      clear hc
      have di : decide (i < s.size) = true := by simpa using hlt
      by_cases h1 : c < 97
      · have d1 : decide ((c : Int) < 97) = true := by simp; omega
        have HF := Lib.hid (HB.out (by unfold okC; rw [decide_eq_false (by omega)]; rfl))
        clear h1
        go_wp2_with fail
        go_ret
        exact ⟨by unfold okS; rw [HF.out]; rfl, rfl⟩
      · have d1 : decide ((c : Int) < 97) = false := by simp; omega
        have hsub := u8_sub (by omega) hc256
        by_cases h2 : n ≤ c - 97
        · have d2 : decide ((n : Int) ≤ (c : Int) - 97) = true := by simp; omega
          have HF := Lib.hid (HB.out (by unfold okC; rw [decide_eq_false (show ¬ c < 97 + n by omega), Bool.and_false]))
          clear h1 h2
          go_wp2_with fail
          go_ret
          exact ⟨by unfold okS; rw [HF.out]; rfl, rfl⟩
        · have d2 : decide ((n : Int) ≤ (c : Int) - 97) = false := by simp; omega
          have HF := Lib.hid (HT.out.trans (show (okT n s i && okC n c) = true by rw [HOK.out]; unfold okC; rw [decide_eq_true (show 97 ≤ c by omega), decide_eq_true (show c < 97 + n by omega)]; rfl))
          clear h1 h2
          go_wp2_with fail
          go_roundg (s.size - (i + 1))
          case measure => omega
          case rel => exact ⟨i + 1, by omega, rfl, by go_num, HF.out, rfl⟩
    · obtain rfl : i = s.size := by omega
      go_wp2_with fail
      go_ret
      exact ⟨by unfold okS; rw [HOK.out]; rfl, rfl⟩
end Go.Proofs.YtilacamhjibneaaDoor
