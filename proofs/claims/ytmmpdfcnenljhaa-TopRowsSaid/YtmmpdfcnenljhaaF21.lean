/- What every right program knows of a triangle, walked. No condition. -/
import Derived.Test.YtmmpdfcnenljhaaF20
set_option linter.unusedVariables false
namespace Go.Proofs.Ytmmpdfcnenljhaa
open Go.RowKit

theorem ListV.of_blk {w : World} {g : Nat} {e : TypeId} {r : List Int} {c : Nat} (h : Blk w g e (r.map (Value.int .i64))) : ListV w (.slice (some ⟨g, 0, none⟩) r.length c) r :=
  ⟨_, c, rfl, .inr ⟨g, rfl, fun k hk => h.cell_some (by rw [Nat.zero_add, List.getElem?_map, List.getElem?_eq_getElem hk]; rfl)⟩⟩

set_option maxRecDepth 100000 in
set_option maxHeartbeats 2000000 in
theorem alive_any (w : World) : Calls Try.prog 11 #[] w fun e w' => e = .returned (.bool true) ∧ Chg (fun _ => False) w w' := by
  go_enter Try.func11, Try.ntmps11
  go_wp2_with fail
  refine (three_any w).mono ?_
  rintro e w1 ⟨g1, rfl, hf1, hc1⟩
  have HC1 := Lib.hid hc1
  have HP := Lib.hid (Polynomial_any 3 tri (some ⟨g1, 0, none⟩) 3 g1 0 w1 hf1 (.inr rfl) tri_garden (by decide))
  clear hc1 hf1
  go_wp2_with fail
  refine HP.out.mono ?_
  rintro e w2 ⟨v, rfl, hv, hc2⟩
  have hv' : ListsV w2 v [[0, 1, 1], [1]] := tri_poly ▸ hv
  have HC2 := Lib.hid (HC1.out.trans hc2 (fun _ x => x.elim)); have HV2 := Lib.hid hv'
  clear hc2 HC1 HP hv hv'
  go_wp2_with fail
  refine (three_any w2).mono ?_
  rintro e w3 ⟨g3, rfl, hf3, hc3⟩
  have HC3 := Lib.hid (HC2.out.trans hc3 (fun _ x => x.elim)); have HV3 := Lib.hid (HV2.out.chg hc3)
  have h := Colourings_any 3 tri 3 (some ⟨g3, 0, none⟩) 3 g3 0 w3 hf3 (.inr rfl) tri_garden (by decide) (by omega) (by omega) (by rw [tri_groups]; omega)
  rw [tri_colours] at h
  have HP := Lib.hid h
  clear hc3 hf3 HC2 HV2 h
  go_wp2_with fail
  refine HP.out.mono ?_
  rintro e w4 ⟨rfl, hc4⟩
  have HC4 := Lib.hid (HC3.out.trans hc4 (fun _ x => x.elim)); have HV4 := Lib.hid (HV3.out.chg hc4)
  clear hc4 HC3 HV3 HP
  go_wp2_with fail
  refine (three_any w4).mono ?_
  rintro e w5 ⟨g5, rfl, hf5, hc5⟩
  have HC5 := Lib.hid (HC4.out.trans hc5 (fun _ x => x.elim)); have HV5 := Lib.hid (HV4.out.chg hc5)
  have h := Gates_any 3 tri (some ⟨g5, 0, none⟩) 3 g5 0 w5 hf5 (.inr rfl) (fun _ => by decide)
  rw [tri_free, tri_round, tri_garden] at h
  have HP := Lib.hid h
  clear hc5 hf5 HC4 HV4 h
  go_wp2_with fail
  refine HP.out.mono ?_
  rintro e w6 ⟨rfl, hc6⟩
  have HC6 := Lib.hid (HC5.out.trans hc6 (fun _ x => x.elim)); have HV6 := Lib.hid (HV5.out.chg hc6)
  clear hc6 HC5 HV5 HP
  have HB6 := Lib.hid (Blk.new w6 #[Value.int .i64 0, Value.int .i64 1, Value.int .i64 0, Value.int .i64 1] 24)
  have HA6 := Lib.hid ((Chg.refl (fun _ => False) w6).alloc (.cells #[Value.int .i64 0, Value.int .i64 1, Value.int .i64 0, Value.int .i64 1] 24))
  obtain ⟨g6, hg6⟩ : ∃ g6, w6.heap.size = g6 := ⟨_, rfl⟩
  rw [hg6] at HB6
  go_wp2_with fail
  clear hg6
  generalize w6.alloc (.cells #[Value.int .i64 0, Value.int .i64 1, Value.int .i64 0, Value.int .i64 1] 24) = w7 at HB6 HA6 ⊢
  have h := Stands_any 2 two 1 2 (some ⟨g6, 0, none⟩) 2 g6 0 w7 (fences_of (fun j u hu => by rw [Nat.zero_add]; exact HB6.out.cell_some hu)) (.inr rfl)
  rw [two_stands] at h
  refine Calls.mono h ?_
  rintro e w8 ⟨rfl, hc8⟩
  have hc8' := HA6.out.trans hc8 (fun _ x => x.elim)
  have HC8 := Lib.hid (HC6.out.trans hc8' (fun _ x => x.elim)); have HV8 := Lib.hid (HV6.out.chg hc8')
  clear hc8 hc8' HC6 HV6 h HB6 HA6
  go_wp2_with fail
  have b0 := (((Blk.new w8 #[Value.int .i64 3, Value.int .i64 4] 32).alloc (.cells #[Value.int .i64 0, Value.int .i64 1, Value.int .i64 1] 3)).alloc (.cells #[Value.int .i64 1] 3)).alloc (.cells #[Value.slice (some ⟨w8.heap.size + 1, 0, none⟩) 3 3, Value.slice (some ⟨w8.heap.size + 1 + 1, 0, none⟩) 1 1] 40)
  have b1 := ((Blk.new (w8.alloc (.cells #[Value.int .i64 3, Value.int .i64 4] 32)) #[Value.int .i64 0, Value.int .i64 1, Value.int .i64 1] 3).alloc (.cells #[Value.int .i64 1] 3)).alloc (.cells #[Value.slice (some ⟨w8.heap.size + 1, 0, none⟩) 3 3, Value.slice (some ⟨w8.heap.size + 1 + 1, 0, none⟩) 1 1] 40)
  have b2 := (Blk.new ((w8.alloc (.cells #[Value.int .i64 3, Value.int .i64 4] 32)).alloc (.cells #[Value.int .i64 0, Value.int .i64 1, Value.int .i64 1] 3)) #[Value.int .i64 1] 3).alloc (.cells #[Value.slice (some ⟨w8.heap.size + 1, 0, none⟩) 3 3, Value.slice (some ⟨w8.heap.size + 1 + 1, 0, none⟩) 1 1] 40)
  have b3 := Blk.new (((w8.alloc (.cells #[Value.int .i64 3, Value.int .i64 4] 32)).alloc (.cells #[Value.int .i64 0, Value.int .i64 1, Value.int .i64 1] 3)).alloc (.cells #[Value.int .i64 1] 3)) #[Value.slice (some ⟨w8.heap.size + 1, 0, none⟩) 3 3, Value.slice (some ⟨w8.heap.size + 1 + 1, 0, none⟩) 1 1] 40
  have hch := ((((Chg.refl (fun _ => False) w8).alloc (.cells #[Value.int .i64 3, Value.int .i64 4] 32)).alloc (.cells #[Value.int .i64 0, Value.int .i64 1, Value.int .i64 1] 3)).alloc (.cells #[Value.int .i64 1] 3)).alloc (.cells #[Value.slice (some ⟨w8.heap.size + 1, 0, none⟩) 3 3, Value.slice (some ⟨w8.heap.size + 1 + 1, 0, none⟩) 1 1] 40)
  have z1 : ∀ (w : World) o, (w.alloc o).heap.size = w.heap.size + 1 := fun w o => by simp
  simp only [z1] at b1 b2 b3
  generalize (((w8.alloc (.cells #[Value.int .i64 3, Value.int .i64 4] 32)).alloc (.cells #[Value.int .i64 0, Value.int .i64 1, Value.int .i64 1] 3)).alloc (.cells #[Value.int .i64 1] 3)).alloc (.cells #[Value.slice (some ⟨w8.heap.size + 1, 0, none⟩) 3 3, Value.slice (some ⟨w8.heap.size + 1 + 1, 0, none⟩) 1 1] 40) = w9 at b0 b1 b2 b3 hch ⊢
  generalize w8.heap.size = h at b0 b1 b2 b3 ⊢
  have hl2 : ListsV w9 (.slice (some ⟨h + 1 + 1 + 1, 0, none⟩) 2 2) [[0, 1, 1], [1]] := by
    refine ⟨_, 2, rfl, .inr ⟨_, rfl, fun i hi => ?_⟩⟩
    have hi' : i = 0 ∨ i = 1 := by simp at hi; omega
    rcases hi' with rfl | rfl
    · exact ⟨_, b3.cell_some (i := 0) rfl, ListV.of_blk (r := [0, 1, 1]) b1⟩
    · exact ⟨_, b3.cell_some (i := 1) rfl, ListV.of_blk (r := [1]) b2⟩
  have HL := Lib.hid (lists_same [[0, 1, 1], [1]] [[0, 1, 1], [1]] v (.slice (some ⟨h + 1 + 1 + 1, 0, none⟩) 2 2) w9 (HV8.out.chg hch) hl2 (by decide) (by decide) (by decide) (by decide))
  have HB0 := Lib.hid b0; have HC9 := Lib.hid (HC8.out.trans hch (fun _ x => x.elim))
  clear b0 b1 b2 b3 hch hl2 HV8 HC8 z1
  refine HL.out.mono ?_
  rintro e w10 ⟨rfl, hc10⟩
  have HB10 := Lib.hid (hc10.blk HB0.out (fun x => x)); have HC10 := Lib.hid (HC9.out.trans hc10 (fun _ x => x.elim))
  clear hc10 HL HB0 HC9
  rw [show decide (([[0, 1, 1], [1]] : List (List Int)) = [[0, 1, 1], [1]]) = true by decide]
  have c0 := HB10.out.cell_some (i := 0) rfl; have c1 := HB10.out.cell_some (i := 1) rfl
  go_wp2_with fail
  go_ret
  exact ⟨rfl, HC10.out⟩
end Go.Proofs.Ytmmpdfcnenljhaa
