/- The reference's sum, small and ways. Their conditions are their premises. -/
import Derived.Test.YtdopmafhdhahiaaDoorW17
set_option linter.unusedVariables false
namespace Go.Proofs.YtdopmafhdhahiaaDoor
open Go.RowKit Go.Maps

def sumV (l : List Nat) : Nat := l.foldl (· + ·) 0
def smallV (l : List Nat) : List Nat := l.map fun x => min x 1

theorem sumV_snoc (l : List Nat) (k : Nat) (h : k < l.length) : sumV (l.take (k + 1)) = sumV (l.take k) + l[k] := by
  unfold sumV
  rw [List.take_succ_eq_append_getElem h, List.foldl_append]
  rfl
theorem sumV_le (l : List Nat) (h : ∀ x ∈ l, x ≤ 100) : ∀ k, k ≤ l.length → sumV (l.take k) ≤ 100 * k := by
  intro k
  induction k with
  | zero => intro _; simp [sumV]
  | succ k ih =>
    intro hk
    rw [sumV_snoc l k hk]
    have := ih (by omega)
    have := h _ (List.getElem_mem hk)
    omega

set_option maxRecDepth 100000 in
set_option maxHeartbeats 400000 in
theorem rsum_any (l : List Nat) (b off c : Nat) (w : World) (hat : NatsAt w b off l) (hn : l.length ≤ 100) (hs : ∀ x ∈ l, x ≤ 100) :
    Calls Tryd.prog 31 #[.slice (some ⟨b, off, none⟩) l.length c] w fun e w' => e = .returned (.int .i64 (sumV l)) ∧ w' = w := by
  have HA := Lib.hid hat; have HS := Lib.hid (sumV_le l hs); have HSS := Lib.hid hs
  clear hat hs
  go_enter Tryd.func31, Tryd.ntmps31
  go_wp2_with fail
  go_loopg [4, 3] l.length (fun gm iv sv wr => ∃ i : Nat, i ≤ l.length ∧ gm = l.length - i ∧ iv = .int .i64 i ∧ sv = .int .i64 (sumV (l.take i)) ∧ wr = w)
  case atStart => exact ⟨0, by omega, by omega, rfl, rfl, rfl⟩
  case round =>
    obtain ⟨i, hi, rfl, rfl, rfl, rfl⟩ := hrel
    by_cases hlt : i < l.length
    · have c0 := HA.out i hlt
      have h1 := HS.out i hi
      have h2 := HSS.out _ (List.getElem_mem hlt)
      have HN := Lib.hid (sumV_snoc l i hlt)
      obtain ⟨x, hx⟩ : ∃ x, l[i] = x := ⟨_, rfl⟩
      obtain ⟨s, hs⟩ : ∃ s, sumV (l.take i) = s := ⟨_, rfl⟩
      rw [hx] at c0 h2 HN
      rw [hs] at h1 HN ⊢
      clear hx hs
      go_wp2_with fail
      go_roundg (l.length - (i + 1))
      case measure => omega
      case rel => exact ⟨i + 1, by omega, rfl, by go_num, by rw [HN.out]; go_num, rfl⟩
    · obtain rfl : i = l.length := by omega
      have HT := Lib.hid (List.take_length (l := l))
      go_wp2_with fail
      go_ret
      exact ⟨by rw [HT.out]; rfl, rfl⟩

set_option maxRecDepth 100000 in
set_option maxHeartbeats 1000000 in
theorem rsmall_any (l : List Nat) (b off c : Nat) (w : World) (hat : NatsAt w b off l) (hn : l.length = 4) (hs : ∀ x ∈ l, x ≤ 100) :
    Calls Tryd.prog 29 #[.slice (some ⟨b, off, none⟩) 4 c] w fun e w' => ∃ v, e = .returned v ∧ w'.ownsRow w.heap.size 3 1 v (smallV l).length (nv (smallV l)) ∧ Chg (fun _ => False) w w' := by
  obtain ⟨i0, hi0, hz0, hz1, hz2⟩ := info_parts info3
  obtain ⟨B, hB⟩ : ∃ B, w.heap.size = B := ⟨_, rfl⟩
  have HB := Lib.hid hB; have HA := Lib.hid hat; have HS := Lib.hid hs; have HN := Lib.hid hn
  have HI0 := Lib.hid hi0; have HZ0 := Lib.hid hz0; have HZ1 := Lib.hid hz1; have HZ2 := Lib.hid hz2
  clear hat hi0 hz0 hz1 hz2 hn hs
  rw [hB]
  clear hB
  go_enter Tryd.func29, Tryd.ntmps29
  go_wp2_with fail
  go_loopg [4, 3] 4 (fun gm iv v wr => ∃ i : Nat, i ≤ 4 ∧ gm = 4 - i ∧ iv = .int .i64 i ∧ wr.ownsRow B 3 1 v i (nv (smallV (l.take i))) ∧ Chg (fun _ => False) w wr)
  case atStart => exact ⟨0, by omega, by omega, rfl, World.ownsRow_nil w B 3 1, Chg.refl _ w⟩
  case round =>
    obtain ⟨i, hi, rfl, rfl, hown, hcg⟩ := hrel
    have HO := Lib.hid hown; have HC := Lib.hid hcg
    clear hown hcg
    by_cases hlt : i < 4
    · have hil : i < l.length := by have := HN.out; omega
      have c0 := (HA.out.chg HC.out (fun x => x)) i hil
      have hx2 := HS.out _ (List.getElem_mem hil)
      have HT := Lib.hid (show nv (smallV (l.take (i + 1))) = nv (smallV (l.take i)) ++ [.int .i64 (min l[i] 1 : Nat)] by unfold nv smallV; rw [List.take_succ_eq_append_getElem hil, List.map_append, List.map_append]; rfl)
      obtain ⟨x, hx⟩ : ∃ x, l[i] = x := ⟨_, rfl⟩
      rw [hx] at c0 hx2 HT
      clear hx
      have hBw : B ≤ wr.heap.size := by have := HB.out; have := HC.out.size; omega
      by_cases h1 : 1 < x
      · have hm : min x 1 = 1 := by omega
        rw [hm] at HT
        have hmi : min (x : Int) 1 = 1 := by omega
        clear hm
        go_wp2_with (at_builtin; refine wpList_append_own _ rfl _ _ 42 rfl B 3 i0 (.int .i64 0) 1 8 Tryd.underlying42 HI0.out HZ0.out HZ1.out HZ2.out rfl (by decide) _ _ _ rfl (HO.out.alloc _) ⟨wr.heap.size, 0, none⟩ 1 1 [.int .i64 1] rfl rfl (by
          intro j u hj
          match j, hj with
          | 0, hj => simp at hj; subst hj; simp [Addr.add]) (by intro u hu; simp at hu; subst hu; rfl) (by unfold maxLen; omega) (by omega) (by simp; omega) ?_)
        intro v' w2 hown' hgrow _
        have HO2 := Lib.hid hown'; have HG := Lib.hid hgrow
        clear hown' hgrow
        go_wp2_with fail
        go_roundg (4 - (i + 1))
        case measure => omega
        case rel =>
          refine ⟨i + 1, by omega, rfl, by go_num, by rw [HT.out]; exact HO2.out, ?_⟩
          exact HC.out.trans (((Chg.refl (fun k => some k = _) wr).alloc _).trans (Chg.of_grownRow HG.out) (fun _ h => .inl h)) (fun k hk => .inr (by have := (HO.out.lt k hk.symm).1; have := HB.out; omega))
      · have hm : min x 1 = x := by omega
        rw [hm] at HT
        have hmi : min (x : Int) 1 = (x : Int) := by omega
        clear hm
        go_wp2_with (at_builtin; refine wpList_append_own _ rfl _ _ 42 rfl B 3 i0 (.int .i64 0) 1 8 Tryd.underlying42 HI0.out HZ0.out HZ1.out HZ2.out rfl (by decide) _ _ _ rfl (HO.out.alloc _) ⟨wr.heap.size, 0, none⟩ 1 1 [.int .i64 (x : Int)] rfl rfl (by
          intro j u hj
          match j, hj with
          | 0, hj => simp at hj; subst hj; simp [Addr.add]) (by intro u hu; simp at hu; subst hu; rfl) (by unfold maxLen; omega) (by omega) (by simp; omega) ?_)
        intro v' w2 hown' hgrow _
        have HO2 := Lib.hid hown'; have HG := Lib.hid hgrow
        clear hown' hgrow
        go_wp2_with fail
        go_roundg (4 - (i + 1))
        case measure => omega
        case rel =>
          refine ⟨i + 1, by omega, rfl, by go_num, by rw [HT.out]; exact HO2.out, ?_⟩
          exact HC.out.trans (((Chg.refl (fun k => some k = _) wr).alloc _).trans (Chg.of_grownRow HG.out) (fun _ h => .inl h)) (fun k hk => .inr (by have := (HO.out.lt k hk.symm).1; have := HB.out; omega))
    · obtain rfl : i = 4 := by omega
      have hO := HO.out
      rw [show l.take 4 = l by rw [← HN.out]; exact List.take_length] at hO
      have HOO := Lib.hid hO
      have HL := Lib.hid (show (smallV l).length = 4 by unfold smallV; rw [List.length_map, HN.out])
      clear hO
      go_wp2_with fail
      go_ret
      exact ⟨_, rfl, by rw [HL.out]; exact HOO.out, HC.out⟩
end Go.Proofs.YtdopmafhdhahiaaDoor
