/- The law FenceStands, walked. Its conditions are its premises. -/
import Derived.Test.YtmmpdfcnenljhaaF22
set_option linter.unusedVariables false
namespace Go.Proofs.Ytmmpdfcnenljhaa
open Go.RowKit

set_option maxRecDepth 100000 in
set_option maxHeartbeats 2000000 in
theorem law_stands (n : Int) (l : List Fe) (a : Option Addr) (cap b off : Nat) (p q : Int) (w : World) (hs : FencesAt w b off l) (ha : l = [] ∨ a = some ⟨b, off, none⟩) :
    Calls Try.prog 4 #[.int .i64 n, .slice a l.length cap, .agg #[.int .i64 p, .int .i64 q]] w (Yes w) := by
  have HS := Lib.hid hs; have HA := Lib.hid ha
  have HC0 := Lib.hid ((Chg.refl (fun _ => False) w).alloc (.cells #[.int .i64 p, .int .i64 q] 32))
  have HB0 := Lib.hid (Blk.new w #[Value.int .i64 p, Value.int .i64 q] 32)
  obtain ⟨pb, hpb⟩ : ∃ pb, w.heap.size = pb := ⟨_, rfl⟩
  rw [hpb] at HB0
  clear hs ha
  go_enter Try.func4, Try.ntmps4
  go_wp2_with fail
  clear hpb
  generalize w.alloc (.cells #[.int .i64 p, .int .i64 q] 32) = w0 at HC0 HB0 ⊢
  refine (few_any a l.length cap w0).mono ?_
  rintro e w1 ⟨rfl, rfl⟩
  by_cases hl : l.length ≤ 40
  · rw [decide_eq_true hl]
    have c0 := HB0.out.cell_some (i := 0) rfl; have c1 := HB0.out.cell_some (i := 1) rfl
    go_wp2_with fail
    clear c0 c1
    refine (Stands_any n l p q a cap b off w1 (HS.out.chg HC0.out (fun x => x)) HA.out).mono ?_
    rintro e w2 ⟨rfl, hc2⟩
    obtain ⟨x, hx⟩ : ∃ x, (standsE n l p q).1 = x := ⟨_, rfl⟩
    obtain ⟨y, hy⟩ : ∃ y, (standsE n l p q).2.1 = y := ⟨_, rfl⟩
    obtain ⟨z, hz⟩ : ∃ z, (standsE n l p q).2.2 = z := ⟨_, rfl⟩
    have HX := Lib.hid hx; have HY := Lib.hid hy; have HZ := Lib.hid hz
    rw [hx, hy, hz]
    have hcA := (Chg.refl (fun _ => False) w2).alloc (.cells #[.int .i64 x, .int .i64 y] 32)
    have HC3 := Lib.hid ((HC0.out.trans hc2 (fun _ x => x.elim)).trans hcA (fun _ x => x.elim))
    have HB3 := Lib.hid (hcA.blk (hc2.blk HB0.out (fun x => x)) (fun x => x))
    have HR3 := Lib.hid (Blk.new w2 #[Value.int .i64 x, Value.int .i64 y] 32)
    obtain ⟨rb, hrb⟩ : ∃ rb, w2.heap.size = rb := ⟨_, rfl⟩
    rw [hrb] at HR3
    have c0 := HB3.out.cell_some (i := 0) rfl; have c1 := HB3.out.cell_some (i := 1) rfl
    clear hx hy hz hc2 hcA HC0 HB0
    go_wp2_with fail
    clear hrb c0 c1
    generalize w2.alloc (.cells #[.int .i64 x, .int .i64 y] 32) = w3 at HC3 HB3 HR3 ⊢
    refine (rStands_any n l p q a cap b off w3 (HS.out.chg HC3.out (fun x => x)) HA.out).mono ?_
    rintro e w4 ⟨rfl, hc4⟩
    rw [HX.out, HY.out, HZ.out]
    have hcB := (Chg.refl (fun _ => False) w4).alloc (.cells #[.int .i64 x, .int .i64 y] 32)
    have HC5 := Lib.hid ((HC3.out.trans hc4 (fun _ x => x.elim)).trans hcB (fun _ x => x.elim))
    have HR5 := Lib.hid (hcB.blk (hc4.blk HR3.out (fun x => x)) (fun x => x))
    have HQ5 := Lib.hid (Blk.new w4 #[Value.int .i64 x, Value.int .i64 y] 32)
    obtain ⟨qb, hqb⟩ : ∃ qb, w4.heap.size = qb := ⟨_, rfl⟩
    rw [hqb] at HQ5
    have c0 := HR5.out.cell_some (i := 0) rfl; have c1 := HR5.out.cell_some (i := 1) rfl
    have c2 := HQ5.out.cell_some (i := 0) rfl; have c3 := HQ5.out.cell_some (i := 1) rfl
    clear hc4 hcB HC3 HB3 HR3 HX HY HZ
    go_wp2_with fail
    clear hqb c0 c1 c2 c3
    generalize w4.alloc (.cells #[.int .i64 x, .int .i64 y] 32) = w5 at HC5 HR5 HQ5 ⊢
    refine (alive_any w5).mono ?_
    rintro e w7 ⟨rfl, hc7⟩
    have HC7 := Lib.hid (HC5.out.trans hc7 (fun _ x => x.elim))
    clear hc7 HC5
    go_wp2_with fail
    go_ret
    exact ⟨rfl, HC7.out⟩
  · rw [decide_eq_false hl]
    clear hl
    go_wp2_with fail
    refine (alive_any w1).mono ?_
    rintro e w7 ⟨rfl, hc7⟩
    have HC7 := Lib.hid (HC0.out.trans hc7 (fun _ x => x.elim))
    clear hc7
    go_wp2_with fail
    go_ret
    exact ⟨rfl, HC7.out⟩
end Go.Proofs.Ytmmpdfcnenljhaa
