/- What a shoot becomes, letter by letter: the iterator. Its conditions are its premises. -/
import Derived.Test.YtilacamhjibneaaDoorV8
import Derived.RangeFuncNested
import Derived.RangeFuncBound
import Derived.RangeFuncCalls
import Derived.RangeFuncLeaves
import Derived.Shelf.Abstract
import Derived.Shelf.RegionOpen
import Derived.OwnWalkIn
import Derived.TacticsInMore
import Derived.LoopNIn
import Derived.LoopIn
import Derived.Sort.QuietIn
set_option linter.unusedVariables false
namespace Go.Proofs.YtilacamhjibneaaDoor
open Go.RowKit Go.Shelf
attribute [local go_sem] Oper.semAt_some

/-- What a shoot becomes. -/
def grow1 (V : List (List Nat)) (t : List Nat) : List Nat := t.flatMap (part V)
theorem grow1_take (V : List (List Nat)) (t : List Nat) {i : Nat} (h : i < t.length) : grow1 V (t.take (i + 1)) = grow1 V (t.take i) ++ part V t[i] := by
  unfold grow1
  rw [List.take_succ_eq_append_getElem h, List.flatMap_append]
  simp
theorem grow1_le (V : List (List Nat)) (t : List Nat) {i k : Nat} (h : i < t.length) (hk : k < (part V t[i]).length) : (grow1 V (t.take i) ++ (part V t[i]).take k).length < (grow1 V t).length := by
  have e : grow1 V t = grow1 V (t.take (i + 1)) ++ grow1 V (t.drop (i + 1)) := by
    unfold grow1
    rw [← List.flatMap_append, List.take_append_drop]
  rw [e, grow1_take V t h, List.length_append, List.length_append, List.length_append, List.length_take]
  omega

/-- What the rounds keep: all but block bb and what lies from n₀ on. -/
def KpN (bb n₀ : Nat) (A B : World) : Prop := Chg (fun k => k = bb ∨ n₀ ≤ k) A B
theorem KpN.trans {bb n₀ : Nat} {A B C : World} (h : KpN bb n₀ A B) (k : KpN bb n₀ B C) : KpN bb n₀ A C := Chg.trans h k (fun _ x => .inl x)

/-- How a round has been left. -/
def Rd (ys : List Nat) (J Jx : List Nat → World → Prop) (bb n₀ : Nat) (A B : World) (r : Bool) : Prop := (r = true ∧ J ys B ∧ KpN bb n₀ A B) ∨ (r = false ∧ Jx ys B)

set_option maxRecDepth 100000 in
set_option maxHeartbeats 2000000 in
theorem grown1_in (n : Nat) (hn : 1 ≤ n) (l bb n₀ sb vb b off cap : Nat) (V : List (List Nat)) (hV : WF V) (t : List Nat) (ht : ∀ c ∈ t, c < V.length) (hl : t.length ≤ 200000)
    (hsb : sb < n₀ ∧ sb ≠ bb) (hvb : vb < n₀ ∧ vb ≠ bb) (hb : b < n₀ ∧ b ≠ bb) (J Jx : List Nat → World → Prop)
    (hY : ∀ pre x W, J pre W → pre.length < (grow1 V t).length → YieldAt Fence.wide (n - 1) Tryd.prog l #[.int .u8 ((97 + x : Nat) : Int)] W fun e W' =>
      (e = .returned (.bool true) ∧ J (pre ++ [x]) W' ∧ KpN bb n₀ W W') ∨ (e = .returned (.bool false) ∧ Jx (pre ++ [x]) W'))
    (W : World) (hs : W.cell? ⟨sb, 0, none⟩ = some (.string (str t))) (hv : W.cell? ⟨vb, 0, none⟩ = some (.slice (some ⟨b, off, none⟩) V.length cap)) (hva : VAt W b off V) (hn0 : n₀ ≤ W.heap.size) (hJ : ∀ s A k, J s A → J s (A.drewN k)) (h0 : J [] W) :
    CallsIn Fence.wide n Tryd.prog 104 #[.func (.yield l) #[] #[], .pointer (some ⟨sb, 0, none⟩), .pointer (some ⟨vb, 0, none⟩)] W fun e W' => (∃ v, e = .returned v) ∧
      ((∃ ys, ys = grow1 V t ∧ J ys W') ∨ (∃ pre : List Nat, True ∧ Jx pre W')) := by
  have hsz := str_size t
  refine callsIn_of_wp Tryd.func104 rfl trivial ?_ rfl
  simp only [Tryd.ntmps104, List.size_toArray, List.length_cons, List.length_nil, Nat.reduceAdd, Nat.reduceSub, Array.replicate_succ, Array.replicate_zero, List.push_toArray, List.append_toArray, List.nil_append, List.cons_append]
  have HS := Lib.hid hs; have HV := Lib.hid hv; have HVA := Lib.hid hva; have HJ := Lib.hid hJ; have HY := Lib.hid hY; have HT := Lib.hid ht; have HWF := Lib.hid hV; have H0 := Lib.hid h0
  have HSB := Lib.hid hsb; have HVB := Lib.hid hvb; have HBB := Lib.hid hb
  clear hva hJ hY ht hV h0 hsb hvb hb
  gi_wp2
  clear hs hv
  have hmx : Tryd.prog.follows .mixedOrders = true := by kernel_rfl
  gi_loopw [8] (fun iv wr => ∃ i : Nat, i ≤ t.length ∧ iv = .int .i64 i ∧ J (grow1 V (t.take i)) wr ∧ KpN bb n₀ W wr) (fun iv _ => t.length - (intOf iv).toNat)
  case atStart => exact ⟨0, Nat.zero_le _, rfl, H0.out, Chg.refl _ _⟩
  case round =>
    obtain ⟨i, hi, rfl, hJs, hkp⟩ := hrel
    have HJS := Lib.hid hJs; have HK := Lib.hid hkp
    clear hJs hkp
    by_cases hlt : i < t.length
    · have d0 : decide (i < t.length) = true := by simpa using hlt
      have hs := HK.out.cell_some HS.out (fun h => h.elim HSB.out.2 (fun h => Nat.not_le_of_lt HSB.out.1 h))
      have hv := HK.out.cell_some HV.out (fun h => h.elim HVB.out.2 (fun h => Nat.not_le_of_lt HVB.out.1 h))
      have hcn := HT.out _ (List.getElem_mem hlt)
      have hn6 := HWF.out.le
      have hidx := index_chr hlt (by omega)
      have hu8 := u8_chr t[i] (by omega)
      have hcell := (HVA.out.chg HK.out (fun h => h.elim HBB.out.2 (fun h => Nat.not_le_of_lt HBB.out.1 h))) t[i] hcn
      rw [← part_lt hcn] at hcell
      have hci : (t[i] : Int) < (V.length : Int) := by omega
      have HP := Lib.hid (HWF.out.part_le t[i])
      have HG := Lib.hid (grow1_take V t hlt)
      have HLE := Lib.hid (fun k => grow1_le V t (k := k) hlt)
      obtain ⟨c, hc⟩ : ∃ c, t[i] = c := ⟨_, rfl⟩
      rw [hc] at hcn hu8 hcell hci HP HG
      simp only [hc] at hidx HLE
      obtain ⟨C, hC⟩ : ∃ C, 97 + c = C := ⟨_, rfl⟩
      rw [hC] at hu8
      simp only [hC] at hidx
      obtain ⟨p, hp⟩ : ∃ p, part V c = p := ⟨_, rfl⟩
      rw [hp] at hcell HP HG
      simp only [hp] at HLE
      have hpz := str_size p
      have hp8 : p.length ≤ 8 := HP.out.1
      have HTI := Lib.hid (show part V t[i] = p by rw [hc]; exact hp)
      have HTJ := Lib.hid hc
      clear hc hC hp
      gi_wp2
      gi_quiet (fail)
      have HJ1 := Lib.hid (HJ.out _ _ nq HJS.out); have HK1 := Lib.hid (HK.out.drewN nq)
      clear hs hv hcell hidx hu8
      generalize wr.drewN nq = W1 at HJ1 HK1 ⊢
      clear HJS HK
      gi_wp2
      gi_loopw [19] (fun kv wr => ∃ k : Nat, k ≤ p.length ∧ kv = .int .i64 k ∧ J (grow1 V (t.take i) ++ p.take k) wr ∧ KpN bb n₀ W wr) (fun kv _ => p.length - (intOf kv).toNat)
      case atStart => exact ⟨0, Nat.zero_le _, rfl, by rw [List.take_zero, List.append_nil]; exact HJ1.out, HK1.out⟩
      case round =>
        clear HJ1 HK1
        obtain ⟨k, hk, rfl, hJs, hkp⟩ := hrel
        have HJS := Lib.hid hJs; have HK := Lib.hid hkp
        clear hJs hkp
        by_cases hkl : k < p.length
        · have d1 : decide (k < p.length) = true := by simpa using hkl
          have hs := HK.out.cell_some HS.out (fun h => h.elim HSB.out.2 (fun h => Nat.not_le_of_lt HSB.out.1 h))
          have hv := HK.out.cell_some HV.out (fun h => h.elim HVB.out.2 (fun h => Nat.not_le_of_lt HVB.out.1 h))
          have hidx := index_chr hlt (by have := HT.out _ (List.getElem_mem hlt); have := HWF.out.le; omega)
          have hx := HP.out.2 _ (List.getElem_mem hkl)
          have hidx2 := index_chr hkl (by omega)
          have HJ2 : J (grow1 V (t.take i) ++ p.take k) wr.drew := HJ.out _ _ 1 HJS.out
          obtain ⟨fn, tmps, assign, body, hy, hR⟩ := HY.out _ p[k] _ HJ2 (HLE.out k hkl)
          have HTK := Lib.hid (show p.take (k + 1) = p.take k ++ [p[k]] from List.take_succ_eq_append_getElem hkl)
          have hu8 := u8_chr t[i] (by have := HT.out _ (List.getElem_mem hlt); have := HWF.out.le; omega)
          have hcell := (HVA.out.chg HK.out (fun h => h.elim HBB.out.2 (fun h => Nat.not_le_of_lt HBB.out.1 h))) t[i] (HT.out _ (List.getElem_mem hlt))
          rw [← part_lt (HT.out _ (List.getElem_mem hlt)), HTI.out] at hcell
          rw [HTJ.out] at hu8
          simp only [HTJ.out] at hidx hcell
          obtain ⟨C, hC⟩ : ∃ C, 97 + c = C := ⟨_, rfl⟩
          rw [hC] at hu8
          simp only [hC] at hidx
          obtain ⟨x, hxx⟩ : ∃ x, p[k] = x := ⟨_, rfl⟩
          rw [hxx] at hx HTK
          simp only [hxx] at hidx2 hy hR
          obtain ⟨D, hD⟩ : ∃ D, 97 + x = D := ⟨_, rfl⟩
          simp only [hD] at hidx2 hy
          clear hC hxx hD HJ2
          have hR2 := hR.mono (R' := fun e W' => ∃ r : Bool, e = .returned (.bool r) ∧ Rd (grow1 V (t.take i) ++ p.take k ++ [x]) J Jx bb n₀ wr.drew W' r) (by
            rintro e W' (⟨he, h1, h2⟩ | ⟨he, h1⟩)
            · exact ⟨true, he, .inl ⟨rfl, h1, h2⟩⟩
            · exact ⟨false, he, .inr ⟨rfl, h1⟩⟩)
          clear hR
          gi_wp2
          gi_region_with_o (refine hR2.mono ?_; rintro e W3 ⟨r, rfl, hrd⟩)
          all_goals
            clear hs hv hcell hidx hidx2 hu8 hy hR2
            rcases hrd with ⟨rfl, hJ3, hk3⟩ | ⟨rfl, hx3⟩
            · have HJ3 := Lib.hid hJ3; have HK3 := Lib.hid (KpN.trans (HK.out.drew) hk3)
              clear hJ3 hk3
              gi_wp2
              go_roundw
              case rel => exact ⟨k + 1, by omega, by go_num, by rw [HTK.out, ← List.append_assoc]; exact HJ3.out, HK3.out⟩
              case measure => simp [intOf]; omega
            · gi_wp2
              refine bodyPost_ret (results_none rfl _ _ _) rfl ?_
              exact ⟨⟨_, rfl⟩, .inr ⟨_, trivial, hx3⟩⟩
        · obtain rfl : k = p.length := by omega
          have hj := HJS.out
          rw [List.take_length, ← HG.out] at hj
          have HJ4 := Lib.hid hj
          clear hj
          gi_wp2
          go_roundw
          case rel => exact ⟨i + 1, by omega, by go_num, HJ4.out, HK.out⟩
          case measure => simp [intOf]; omega
    · obtain rfl : i = t.length := by omega
      have hj := HJS.out
      rw [List.take_length] at hj
      gi_wp2
      go_end0
      exact ⟨⟨_, rfl⟩, .inl ⟨_, rfl, hj⟩⟩
end Go.Proofs.YtilacamhjibneaaDoor
