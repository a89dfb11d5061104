/- The function literal of Grow; strings.Map where no letter is left out. Their conditions are their premises. -/
import Derived.Test.YtilacamhjibneaaDoorV11
set_option linter.unusedVariables false
namespace Go.Proofs.YtilacamhjibneaaDoor
open Go.RowKit

theorem i32_sub (c : Nat) (hc : c < 100) : IntKind.i32.wrap (((97 + c : Nat) : Int) - 97) = (c : Int) := by
  simp [IntKind.wrap, IntKind.bits, IntKind.signed]
  omega

def livR (L : List Bool) (c : Nat) : Int := if atB L c = true then ((97 + c : Nat) : Int) else -1
set_option maxRecDepth 100000 in
set_option maxHeartbeats 400000 in
theorem lives_any (L : List Bool) (c fb g cap : Nat) (w : World) (hc : c < L.length) (hL : L.length ≤ 50) (hf : w.cell? ⟨fb, 0, none⟩ = some (.slice (some ⟨g, 0, none⟩) L.length cap)) (hb : BoolsAt w g 0 L) :
    Calls Tryd.prog 71 #[.int .i32 ((97 + c : Nat) : Int), .pointer (some ⟨fb, 0, none⟩)] w fun e w' => e = .returned (.int .i32 (livR L c)) ∧ w' = w := by
  have hs := i32_sub c (by omega)
  have c0 := bools_at hb hc
  rw [Nat.zero_add] at c0
  have hci : (c : Int) < (L.length : Int) := by omega
  have HR := Lib.hid (show livR L c = if atB L c = true then ((97 + c : Nat) : Int) else -1 from rfl)
  obtain ⟨C, hC⟩ : ∃ C, 97 + c = C := ⟨_, rfl⟩
  rw [hC] at hs HR ⊢
  clear hC
  obtain ⟨x, hx⟩ : ∃ x, atB L c = x := ⟨_, rfl⟩
  rw [hx] at c0 HR
  clear hx
  cases x with
  | true =>
    go_enter Tryd.func71, Tryd.ntmps71
    go_wp2_with fail
    go_ret
    exact ⟨by rw [HR.out]; rfl, rfl⟩
  | false =>
    go_enter Tryd.func71, Tryd.ntmps71
    go_wp2_with fail
    go_ret
    exact ⟨by rw [HR.out]; rfl, rfl⟩

theorem next_chr {P : Program} (w : World) (k : Nat) (t : List Nat) {p : Nat} (ty : TypeId) (hk : w.heap[k]? = some (.stringIter (str t) p)) (h : p < t.length) (hc : t[p] < 31) :
    (Instr.next (.pointer (some ⟨k, 0, none⟩)) true ty).run P w = .ok (.tuple #[.bool true, .int .i64 p, .int .i32 ((97 + t[p] : Nat) : Int)]) (w.iterAt k (str t) (p + 1)) := by
  have hb := str_byte h (by omega)
  have h' : p < (str t).size := by rw [str_size]; exact h
  have hv : ((str t)[p]'h').toNat = 97 + t[p] := by
    rw [← hb]
    unfold byteAt
    rw [List.getElem?_eq_getElem (by simpa using h')]
    simp [ByteArray.getElem_eq_getElem_data]
  rw [Lib.run_next_ascii_at w k (str t) p ty hk h' (by rw [hv]; omega), hv]

set_option maxRecDepth 100000 in
set_option maxHeartbeats 1000000 in
theorem map_same (L : List Bool) (t : List Nat) (fb g cap : Nat) (w : World) (ht : ∀ c ∈ t, c < L.length) (hL : L.length ≤ 30) (hl : t.length ≤ 1000000) (hal : ∀ c ∈ t, atB L c = true)
    (hf : w.cell? ⟨fb, 0, none⟩ = some (.slice (some ⟨g, 0, none⟩) L.length cap)) (hb : BoolsAt w g 0 L) :
    Calls Tryd.prog 70 #[.func (.func 71) #[] #[.pointer (some ⟨fb, 0, none⟩)], .string (str t)] w fun e w' => e = .returned (.string (str t)) ∧ Below w.heap.size w w' := by
  have HT := Lib.hid ht; have HAL := Lib.hid hal; have HF := Lib.hid hf; have HB := Lib.hid hb
  have hfl := World.cell_lt hf
  have hgl : t.length = 0 ∨ g < w.heap.size := by
    cases t with
    | nil => exact .inl rfl
    | cons c t => exact .inr (World.cell_lt (hb 0 (by have := ht c (by simp); omega)))
  have HGL := Lib.hid hgl
  clear ht hal hf hb hgl
  go_enter Tryd.func70, Tryd.ntmps70
  go_wp2_with fail
  have HI0 := Lib.hid (World.iter_heap (w.alloc (.cells #[.pointer none, .slice none 0 0] 106)) (str t) 0)
  have HD0 : Hid (((w.alloc (.cells #[.pointer none, .slice none 0 0] 106)).iter (str t) 0).heap[w.heap.size]? = some (.cells #[.pointer none, .slice none 0 0] 106)) := Lib.hid ((Below.heap_alloc _ _ _ (by simp)).trans (World.alloc_heap_new w _))
  have HB0 : Hid (Below w.heap.size w ((w.alloc (.cells #[.pointer none, .slice none 0 0] 106)).iter (str t) 0)) := Lib.hid (((Below.refl _ w).alloc (Nat.le_refl _) _).alloc (by simp) _)
  rw [World.size_alloc] at HI0
  obtain ⟨B, hB⟩ : ∃ B, w.heap.size = B := ⟨_, rfl⟩
  rw [hB] at HI0 HD0 HB0 hfl HGL ⊢
  have HBE := Lib.hid hB
  clear hB
  generalize (w.alloc (.cells #[.pointer none, .slice none 0 0] 106)).iter (str t) 0 = W0 at HI0 HD0 HB0 ⊢
  go_loopg [1] t.length (fun gm sv wx => ∃ p : Nat, p ≤ t.length ∧ gm = t.length - p ∧ sv = .string (str t) ∧ wx.heap[B + 1]? = some (.stringIter (str t) p) ∧ wx.heap[B]? = some (.cells #[.pointer none, .slice none 0 0] 106) ∧ Below B w wx)
  case atStart => exact ⟨0, by omega, by omega, rfl, HI0.out, HD0.out, HB0.out⟩
  case round =>
    clear HI0 HD0 HB0
    obtain ⟨p, hp, rfl, rfl, hit, hbd, hbw⟩ := hrel
    have HIT := Lib.hid hit; have HBD := Lib.hid hbd; have HBW := Lib.hid hbw
    clear hit hbd hbw
    by_cases hlt : p < t.length
    · have hcn := HT.out _ (List.getElem_mem hlt)
      have hla := HAL.out _ (List.getElem_mem hlt)
      have hnx : ∀ ty, (Instr.next (.pointer (some ⟨B + 1, 0, none⟩)) true ty).run Tryd.prog wr = _ := fun ty => next_chr wr (B + 1) t ty HIT.out hlt (by omega)
      have HI2 := Lib.hid (Lib.iterAt_heap wr (B + 1) (str t) p (p + 1) HIT.out)
      have HB2 := Lib.hid (Lib.below_iterAt HBW.out (k := B + 1) (by omega) (str t) (p + 1))
      have HD2 := Lib.hid ((Lib.iterAt_other wr (B + 1) B (str t) (p + 1) (by omega)).trans HBD.out)
      have HLV : Hid (livR L t[p] = ((97 + t[p] : Nat) : Int)) := Lib.hid (by unfold livR; rw [if_pos hla])
      have HCC := Lib.hid (lives_any L t[p] fb g cap (wr.iterAt (B + 1) (str t) (p + 1)) hcn (by omega) ((HB2.out.cell (p := ⟨fb, 0, none⟩) hfl).trans HF.out)
        (fun k hk => (HB2.out.cell (p := ⟨g, 0 + k, none⟩) (show g < B by have := HGL.out; omega)).trans (HB.out k hk)))
      rw [HLV.out] at HCC
      generalize wr.iterAt (B + 1) (str t) (p + 1) = W2 at hnx HI2 HB2 HD2 HCC
      obtain ⟨C, hC⟩ : ∃ C, 97 + t[p] = C := ⟨_, rfl⟩
      have hC128 : C < 128 := by omega
      rw [hC] at hnx HCC
      have hCn : ((C : Int) != 65533) = true := by rw [bne_iff_ne]; omega
      clear hC hla HLV
      go_wp2_with fail
      refine HCC.out.mono ?_
      rintro e W3 ⟨rfl, rfl⟩
      clear hnx
      go_wp2_with fail
      go_roundg (t.length - (p + 1))
      case measure => omega
      case rel => exact ⟨p + 1, by omega, rfl, rfl, HI2.out, HD2.out, HB2.out⟩
    · obtain rfl : p = t.length := by omega
      have hnx : ∀ ty, (Instr.next (.pointer (some ⟨B + 1, 0, none⟩)) true ty).run Tryd.prog wr = _ := fun ty => Lib.run_next_end_at wr (B + 1) (str t) t.length ty HIT.out (by rw [str_size]; omega)
      have HCP := Lib.hid (Tryd.Builder_Cap_cell B none 0 0 wr (by rw [Lib.cell_of_heap HBD.out]; rfl))
      go_wp2_with fail
      refine HCP.out.mono ?_
      rintro e W3 ⟨rfl, rfl⟩
      clear hnx
      go_wp2_with fail
      go_ret
      exact ⟨rfl, by rw [HBE.out]; exact HBW.out⟩
end Go.Proofs.YtilacamhjibneaaDoor
