/- A row as numbers: plots. Its conditions are its premises. -/
import Derived.Test.YtdopmafhdhahiaaDoorW14
set_option linter.unusedVariables false
namespace Go.Proofs.YtdopmafhdhahiaaDoor
open Go.RowKit Go.Maps

theorem index_bit (l : List Nat) (i : Nat) (hi : i < l.length) (h2 : l[i] < 2) (w : World) : (Instr.index 9 (.string (txt l)) (.int .i64 (i : Int))).run Tryd.prog w = .ok (.int .u8 (if l[i] = 0 then 48 else 49)) w := by
  rw [run_index_string w 9 _ .i64 _ Tryd.underlying9, dif_pos ⟨by omega, by rw [txt_size]; omega⟩]
  congr 2
  have hcase : l[i] = 0 ∨ l[i] = 1 := by omega
  rcases hcase with h | h <;> simp [txt, bytes, ByteArray.getElem_eq_getElem_data, h]

def nv (l : List Nat) : List Value := l.map fun (x : Nat) => .int .i64 (x : Int)

theorem owns_nats {w : World} {B : Nat} {v : Value} {l : List Nat} (h : w.ownsRow B 3 1 v l.length (nv l)) : ∃ a g c, v = .slice a l.length c ∧ (l = [] ∨ a = some ⟨g, 0, none⟩) ∧ NatsAt w g 0 l ∧ B ≤ g := by
  obtain ⟨ao, c, rfl, hx⟩ := owns_form h
  cases l with
  | nil => exact ⟨ao, B, c, rfl, .inl rfl, fun k hk => by simp at hk, Nat.le_refl _⟩
  | cons y l =>
    obtain ⟨g, rfl, hb, _, hc⟩ := hx (by simp)
    refine ⟨_, g, c, rfl, .inr rfl, fun k hk => ?_, hb⟩
    rw [Nat.zero_add]
    exact hc k _ (by unfold nv; rw [List.getElem?_map, List.getElem?_eq_getElem hk]; rfl)

set_option maxRecDepth 100000 in
set_option maxHeartbeats 1000000 in
theorem plots_any (l : List Nat) (w : World) (hl : ∀ x ∈ l, x < 2) (hn : l.length ≤ 1000) :
    Calls Tryd.prog 26 #[.string (txt l)] w fun e w' => ∃ v, e = .returned v ∧ w'.ownsRow w.heap.size 3 1 v l.length (nv l) ∧ Chg (fun _ => False) w w' := by
  obtain ⟨i0, hi0, hz0, hz1, hz2⟩ := info_parts info3
  have hsz := txt_size l
  obtain ⟨B, hB⟩ : ∃ B, w.heap.size = B := ⟨_, rfl⟩
  have HB := Lib.hid hB; have HL := Lib.hid hl
  have HI0 := Lib.hid hi0; have HZ0 := Lib.hid hz0; have HZ1 := Lib.hid hz1; have HZ2 := Lib.hid hz2
  clear hl hi0 hz0 hz1 hz2
  rw [hB]
  clear hB
  go_enter Tryd.func26, Tryd.ntmps26
  go_wp2_with fail
  go_loopg [7, 3] l.length (fun gm iv v wr => ∃ i : Nat, i ≤ l.length ∧ gm = l.length - i ∧ iv = .int .i64 i ∧ wr.ownsRow B 3 1 v i (nv (l.take i)) ∧ Chg (fun _ => False) w wr)
  case atStart => exact ⟨0, by omega, by omega, rfl, World.ownsRow_nil w B 3 1, Chg.refl _ w⟩
  case round =>
    obtain ⟨i, hi, rfl, rfl, hown, hcg⟩ := hrel
    have HO := Lib.hid hown; have HC := Lib.hid hcg
    clear hown hcg
    by_cases hlt : i < l.length
    · have hidx := index_bit l i hlt (HL.out _ (List.getElem_mem hlt))
      have hx2 := HL.out _ (List.getElem_mem hlt)
      have HT := Lib.hid (show nv (l.take (i + 1)) = nv (l.take i) ++ [.int .i64 (l[i] : Nat)] by unfold nv; rw [List.take_succ_eq_append_getElem hlt, List.map_append]; rfl)
      obtain ⟨x, hx⟩ : ∃ x, l[i] = x := ⟨_, rfl⟩
      rw [hx] at hx2 HT
      simp only [hx] at hidx
      clear hx
      have di : decide ((i : Int) < (l.length : Int)) = true := by simpa using hlt
      have hcase : x = 0 ∨ x = 1 := by omega
      have hBw : B ≤ wr.heap.size := by have := HB.out; have := HC.out.size; omega
      clear hx2
      rcases hcase with rfl | rfl
      · simp only [if_true] at hidx
        go_wp2_with (at_builtin; refine wpList_append_own _ rfl _ _ 42 rfl B 3 i0 (.int .i64 0) 1 8 Tryd.underlying42 HI0.out HZ0.out HZ1.out HZ2.out rfl (by decide) _ _ _ rfl (HO.out.alloc _) ⟨wr.heap.size, 0, none⟩ 1 1 [.int .i64 0] rfl rfl (by
          intro j u hj
          match j, hj with
          | 0, hj => simp at hj; subst hj; simp [Addr.add]) (by intro u hu; simp at hu; subst hu; rfl) (by unfold maxLen; omega) (by omega) (by simp; omega) ?_)
        intro v' w2 hown' hgrow _
        have HO2 := Lib.hid hown'; have HG := Lib.hid hgrow
        clear hown' hgrow
        go_wp2_with fail
        go_roundg (l.length - (i + 1))
        case measure => omega
        case rel =>
          refine ⟨i + 1, by omega, rfl, by go_num, by rw [HT.out]; exact HO2.out, ?_⟩
          exact HC.out.trans (((Chg.refl (fun k => some k = _) wr).alloc _).trans (Chg.of_grownRow HG.out) (fun _ h => .inl h)) (fun k hk => .inr (by have := (HO.out.lt k hk.symm).1; have := HB.out; omega))
      · simp only [show ¬ (1 : Nat) = 0 by omega, if_false] at hidx
        go_wp2_with (at_builtin; refine wpList_append_own _ rfl _ _ 42 rfl B 3 i0 (.int .i64 0) 1 8 Tryd.underlying42 HI0.out HZ0.out HZ1.out HZ2.out rfl (by decide) _ _ _ rfl (HO.out.alloc _) ⟨wr.heap.size, 0, none⟩ 1 1 [.int .i64 1] rfl rfl (by
          intro j u hj
          match j, hj with
          | 0, hj => simp at hj; subst hj; simp [Addr.add]) (by intro u hu; simp at hu; subst hu; rfl) (by unfold maxLen; omega) (by omega) (by simp; omega) ?_)
        intro v' w2 hown' hgrow _
        have HO2 := Lib.hid hown'; have HG := Lib.hid hgrow
        clear hown' hgrow
        go_wp2_with fail
        go_roundg (l.length - (i + 1))
        case measure => omega
        case rel =>
          refine ⟨i + 1, by omega, rfl, by go_num, by rw [HT.out]; exact HO2.out, ?_⟩
          exact HC.out.trans (((Chg.refl (fun k => some k = _) wr).alloc _).trans (Chg.of_grownRow HG.out) (fun _ h => .inl h)) (fun k hk => .inr (by have := (HO.out.lt k hk.symm).1; have := HB.out; omega))
    · obtain rfl : i = l.length := by omega
      have hO := HO.out
      rw [List.take_length] at hO
      have HOO := Lib.hid hO
      clear hO
      go_wp2_with fail
      go_ret
      exact ⟨_, rfl, HOO.out, HC.out⟩
end Go.Proofs.YtdopmafhdhahiaaDoor
