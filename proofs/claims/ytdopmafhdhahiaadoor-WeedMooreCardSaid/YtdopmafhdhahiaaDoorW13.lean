/- Trim at the cutset "01", of rows. Their conditions are their premises. -/
import Derived.Test.YtdopmafhdhahiaaDoorW12
set_option linter.unusedVariables false
namespace Go.Proofs.YtdopmafhdhahiaaDoor
open Go.RowKit Go.Maps

theorem index_last (m : List Nat) (x : Nat) (hx : x < 2) (w : World) : (Instr.index 9 (.string (txt (m ++ [x]))) (.int .i64 (m.length : Int))).run Tryd.prog w = .ok (.int .u8 (48 + x : Nat)) w := by
  rw [run_index_string w 9 _ .i64 _ Tryd.underlying9, dif_pos ⟨by omega, by rw [txt_size]; simp; omega⟩]
  congr 2
  have hcase : x = 0 ∨ x = 1 := by omega
  rcases hcase with rfl | rfl <;> simp [txt, bytes, ByteArray.getElem_eq_getElem_data]
theorem slice_init (m : List Nat) (x : Nat) (w : World) : (Instr.slice 9 (.string (txt (m ++ [x]))) none (some (.int .i64 (m.length : Int))) none).run Tryd.prog w = .ok (.string (txt m)) w := by
  have hsz : (txt (m ++ [x])).size = m.length + 1 := by rw [txt_size]; simp
  have he : (txt (m ++ [x])).extract 0 m.length = txt m := by
    apply ByteArray.ext
    simp [txt, bytes]
  simp [Instr.slice, run_underlying Tryd.underlying9, Instr.sliceBounds, hsz]
  rw [run_sliceBound w .i64 _ _ _ (by omega) (by omega)]
  simp [Result.andThen, he]

theorem snoc_or (m : List Nat) : m = [] ∨ ∃ m' x, m = m' ++ [x] := by
  rcases List.eq_nil_or_concat m with h | ⟨m', x, h⟩
  · exact .inl h
  · exact .inr ⟨m', x, by rw [h, List.concat_eq_append]⟩

theorem contains_any (b n : Nat) (w : World) (hn : n < 256) (h : w.cell? ⟨b, n, none⟩ = some (.bool true)) : Calls Tryd.prog 45 #[.pointer (some ⟨b, 0, none⟩), .int .u8 (n : Int)] w fun e w' => e = .returned (.bool true) ∧ w' = w := by
  have := Tryd.asciiSet_contains b (UInt8.ofNat n) true w (by rw [show (UInt8.ofNat n).toNat = n by simp; omega]; exact h)
  rwa [show (UInt8.ofNat n).toNat = n by simp; omega] at this

set_option maxRecDepth 100000 in
set_option maxHeartbeats 400000 in
theorem trimR_any (b : Nat) (l : List Nat) (w : World) (hl : ∀ x ∈ l, x < 2) (hn : l.length ≤ 1000) (h0 : w.cell? ⟨b, 48, none⟩ = some (.bool true)) (h1 : w.cell? ⟨b, 49, none⟩ = some (.bool true)) :
    Calls Tryd.prog 41 #[.string (txt l), .pointer (some ⟨b, 0, none⟩)] w fun e w' => e = .returned (.string (txt [])) ∧ w' = w := by
  go_enter Tryd.func41, Tryd.ntmps41
  go_wp2_with fail
  go_loopg [0] l.length (fun gm sv wr => ∃ m : List Nat, (∀ x ∈ m, x < 2) ∧ m.length ≤ 1000 ∧ gm = m.length ∧ sv = .string (txt m) ∧ wr = w)
  case atStart => exact ⟨l, hl, hn, rfl, rfl, rfl⟩
  case round =>
    obtain ⟨m, hm, hml, rfl, rfl, rfl⟩ := hrel
    have HM := Lib.hid hm
    rcases snoc_or m with rfl | ⟨m', x, rfl⟩
    · have hsz : (txt []).size = 0 := txt_size []
      clear hm
      go_wp2_with fail
      go_ret
      exact ⟨rfl, rfl⟩
    · have hx := hm x (by simp)
      have hsz : (txt (m' ++ [x])).size = m'.length + 1 := by rw [txt_size]; simp
      have hml2 : m'.length ≤ 1000 := by simp at hml; omega
      have hi := index_last m' x hx
      have hs := slice_init m' x
      clear hm
      have hcell : wr.cell? ⟨b, 48 + x, none⟩ = some (.bool true) := by
        have hcase : x = 0 ∨ x = 1 := by omega
        rcases hcase with rfl | rfl
        · exact h0
        · exact h1
      have hcon := contains_any b (48 + x) wr (by omega) hcell
      rw [show ((48 + x : Nat) : Int) = 48 + (x : Int) by omega] at hcon
      go_wp2_with fail
      refine hcon.mono ?_
      rintro e W ⟨rfl, rfl⟩
      go_wp2_with fail
      go_roundg m'.length
      case measure => simp
      case rel => exact ⟨m', fun y hy => HM.out y (by simp [hy]), hml2, rfl, rfl, rfl⟩
end Go.Proofs.YtdopmafhdhahiaaDoor
