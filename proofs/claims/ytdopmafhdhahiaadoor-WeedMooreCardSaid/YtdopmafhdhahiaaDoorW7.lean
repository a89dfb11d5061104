/- written, walked. Its conditions are its premises. -/
import Derived.Test.YtdopmafhdhahiaaDoorW6
set_option linter.unusedVariables false
namespace Go.Proofs.YtdopmafhdhahiaaDoor
open Go.RowKit

def NatsAt (w : World) (b off : Nat) (l : List Nat) : Prop := ∀ k (h : k < l.length), w.cell? ⟨b, off + k, none⟩ = some (.int .i64 (l[k] : Nat))
theorem NatsAt.chg {S : Nat → Prop} {w w' : World} {b off : Nat} {l : List Nat} (h : NatsAt w b off l) (hc : Chg S w w') (hn : ¬ S b) : NatsAt w' b off l := fun k hk => hc.cell_some (h k hk) hn

/-- Plots as text. -/
def bytes (l : List Nat) : List UInt8 := l.map fun x => (48 + x).toUInt8
def txt (l : List Nat) : ByteArray := ⟨(bytes l).toArray⟩
theorem bytes_len (l : List Nat) : (bytes l).length = l.length := by simp [bytes]

set_option maxRecDepth 100000 in
set_option maxHeartbeats 400000 in
theorem written_any (l : List Nat) (a : Option Addr) (cap b off : Nat) (w : World) (hl : NatsAt w b off l) (hb : ∀ x ∈ l, x < 2) (hn : l.length ≤ 1000) (ha : l = [] ∨ a = some ⟨b, off, none⟩) :
    Calls Tryd.prog 27 #[.slice a l.length cap] w fun e w' => e = .returned (.string (txt l)) ∧ Chg (fun _ => False) w w' := by
  obtain ⟨B, hB⟩ : ∃ B, w.heap.size = B := ⟨_, rfl⟩
  have HL := Lib.hid hl; have HA := Lib.hid ha; have HBB := Lib.hid hb; have HB := Lib.hid hB
  clear hl ha hb
  go_enter Tryd.func27, Tryd.ntmps27
  go_wp2_with fail
  clear hB
  go_loopg [8] l.length (fun gm iv wr => ∃ i : Nat, i ≤ l.length ∧ gm = l.length - i ∧ iv = .int .i64 i ∧ Lib.IsBuilder 67 5 B B (Lib.byteCells (bytes (l.take i))) wr ∧ Below B w wr)
  case atStart =>
    refine ⟨0, by omega, by omega, rfl, ?_, ?_⟩
    · have := Lib.fresh_isBuilder 67 5 w
      rw [HB.out] at this
      exact this
    · exact (Below.refl B w).alloc (by have := HB.out; omega) _
  case round =>
    obtain ⟨i, hi, rfl, rfl, hI, hbw⟩ := hrel
    have HI := Lib.hid hI; have HW := Lib.hid hbw
    clear hI hbw
    by_cases hlt : i < l.length
    · have hne : a = some ⟨b, off, none⟩ := HA.out.resolve_left (by intro h; simp [h] at hlt)
      subst hne
      have c0 := HL.out i hlt
      have hbl := World.cell_lt c0
      have hc := World.cell?_of_block (w := w) (w' := wr) (a := ⟨b, off + i, none⟩) (HW.out.block b (by have := HB.out; simp at hbl; omega))
      rw [← hc] at c0
      clear hc
      have hx2 := HBB.out _ (List.getElem_mem hlt)
      have HT := Lib.hid (show l.take (i + 1) = l.take i ++ [l[i]] from List.take_succ_eq_append_getElem hlt)
      obtain ⟨x, hx⟩ : ∃ x, l[i] = x := ⟨_, rfl⟩
      rw [hx] at c0 hx2 HT
      clear hx
      have di : decide ((i : Int) < (l.length : Int)) = true := by simpa using hlt
      have hcase : x = 0 ∨ x = 1 := by omega
      clear hx2
      have hsz : B ≤ wr.heap.size := by have := HW.out.size; have := HB.out; omega
      have hlen : (Lib.byteCells (bytes (l.take i))).length + 1 ≤ 140737488355328 := by rw [Lib.byteCells_length, bytes_len]; simp; omega
      rcases hcase with rfl | rfl
      · go_wp2_with fail
        refine (byte_any B B _ 48 wr HI.out hlen hsz).mono ?_
        rintro e W1 ⟨rfl, h1, b1⟩
        have H1 := Lib.hid h1; have B1 := Lib.hid (HW.out.trans b1)
        clear h1 b1
        go_wp2_with fail
        go_roundg (l.length - (i + 1))
        case measure => omega
        case rel =>
          refine ⟨i + 1, by omega, rfl, by go_num, ?_, B1.out⟩
          have := H1.out
          rw [HT.out]
          refine .inr ?_
          unfold bytes Lib.byteCells at this ⊢
          simpa using this
      · go_wp2_with fail
        refine (byte_any B B _ 49 wr HI.out hlen hsz).mono ?_
        rintro e W1 ⟨rfl, h1, b1⟩
        have H1 := Lib.hid h1; have B1 := Lib.hid (HW.out.trans b1)
        clear h1 b1
        go_wp2_with fail
        go_roundg (l.length - (i + 1))
        case measure => omega
        case rel =>
          refine ⟨i + 1, by omega, rfl, by go_num, ?_, B1.out⟩
          have := H1.out
          rw [HT.out]
          refine .inr ?_
          unfold bytes Lib.byteCells at this ⊢
          simpa using this
    · obtain rfl : i = l.length := by omega
      have hI := HI.out
      rw [List.take_length] at hI
      have HII := Lib.hid hI
      clear hI
      have hsz : B ≤ wr.heap.size := by have := HW.out.size; have := HB.out; omega
      go_wp2_with fail
      refine (Tryd.Builder_String_any B B _ wr HII.out hsz).mono ?_
      rintro e W1 ⟨rfl, b1⟩
      have B1 := Lib.hid (HW.out.trans b1)
      clear b1
      go_wp2_with fail
      go_ret
      refine ⟨rfl, ?_⟩
      have := B1.out
      rw [← HB.out] at this
      exact Chg.of_below this
end Go.Proofs.YtdopmafhdhahiaaDoor
