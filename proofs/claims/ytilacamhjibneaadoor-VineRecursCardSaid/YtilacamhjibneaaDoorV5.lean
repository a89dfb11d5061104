/- The tally a year later, and after some years. Their conditions are their premises. -/
import Derived.Test.YtilacamhjibneaaDoorV4
set_option linter.unusedVariables false
namespace Go.Proofs.YtilacamhjibneaaDoor
open Go.RowKit

def part (V : List (List Nat)) (i : Nat) : List Nat := V[i]?.getD []
theorem part_lt {V : List (List Nat)} {i : Nat} (h : i < V.length) : part V i = V[i] := by
  unfold part
  rw [List.getElem?_eq_getElem h]
  rfl
theorem WF.part_le {V : List (List Nat)} (h : WF V) (i : Nat) : (part V i).length ≤ 8 ∧ ∀ c ∈ part V i, c < V.length := by
  unfold part
  cases hh : V[i]? with
  | none => simp
  | some p => exact h.small p (List.mem_of_getElem? hh)
/-- The letters of one part, each x times, on top of o. -/
def aftP (p : List Nat) (x : Nat) (o : List Nat) : Nat → List Nat
  | 0 => o
  | k + 1 => (aftP p x o k).set (at0 p k) (min (at0 (aftP p x o k) (at0 p k) + x) lim)
def aftF (V : List (List Nat)) (T : List Nat) : Nat → List Nat
  | 0 => List.replicate V.length 0
  | i + 1 => aftP (part V i) (at0 T i) (aftF V T i) (part V i).length
def aftV (V : List (List Nat)) (T : List Nat) : List Nat := aftF V T V.length
theorem aftP_len (p : List Nat) (x : Nat) (o : List Nat) : ∀ k, (aftP p x o k).length = o.length
  | 0 => rfl
  | k + 1 => by rw [aftP, List.length_set, aftP_len p x o k]
theorem aftF_len (V : List (List Nat)) (T : List Nat) : ∀ i, (aftF V T i).length = V.length
  | 0 => by simp [aftF]
  | i + 1 => by rw [aftF, aftP_len, aftF_len V T i]
theorem aftP_le (p : List Nat) (x : Nat) {o : List Nat} (h : ∀ y ∈ o, y ≤ lim) : ∀ k, ∀ y ∈ aftP p x o k, y ≤ lim
  | 0 => h
  | k + 1 => by
    rw [aftP]
    exact set_le (aftP_le p x h k) (Nat.min_le_right _ _)
theorem aftF_le (V : List (List Nat)) (T : List Nat) : ∀ i, ∀ y ∈ aftF V T i, y ≤ lim
  | 0 => by intro y hy; simp [aftF] at hy; unfold lim; omega
  | i + 1 => by
    rw [aftF]
    exact aftP_le _ _ (aftF_le V T i) _

set_option maxRecDepth 100000 in
set_option maxHeartbeats 1000000 in
theorem after_any (V : List (List Nat)) (hV : WF V) (T : List Nat) (b off cap tb toff tcap : Nat) (w : World) (hv : VAt w b off V) (ht : NatsAt w tb toff T) (hl : T.length = V.length) (hle : ∀ y ∈ T, y ≤ lim) :
    Calls Tryd.prog 59 #[.slice (some ⟨b, off, none⟩) V.length cap, .slice (some ⟨tb, toff, none⟩) V.length tcap] w fun e w' =>
      e = .returned (.slice (some ⟨w.heap.size, 0, none⟩) V.length V.length) ∧ Blk w' w.heap.size 3 (nv (aftV V T)) ∧ Chg (fun _ => False) w w' := by
  have hn6 := hV.le
  have hmk := make_tally V.length (by omega)
  have HV := Lib.hid hv; have HT := Lib.hid ht; have HTL := Lib.hid hl; have HLE := Lib.hid hle; have HWF := Lib.hid hV
  have HB0 := Lib.hid (made_nats V.length w); have HC0 := Lib.hid ((Chg.refl (fun _ => False) w).alloc (.cells (Array.replicate V.length (.int .i64 0)) 3))
  obtain ⟨B, hB⟩ : ∃ B, w.heap.size = B := ⟨_, rfl⟩
  have HB := Lib.hid hB
  rw [hB] at HB0 ⊢
  clear hv ht hl hle hV
  go_enter Tryd.func59, Tryd.ntmps59
  go_wp2_with fail
  clear hmk hB
  generalize w.alloc (.cells (Array.replicate V.length (.int .i64 0)) 3) = W0 at HB0 HC0 ⊢
  go_loopg [14] V.length (fun gm iv wr => ∃ i : Nat, i ≤ V.length ∧ gm = V.length - i ∧ iv = .int .i64 i ∧ Blk wr B 3 (nv (aftF V T i)) ∧ Chg (fun _ => False) w wr)
  case atStart => exact ⟨0, by omega, by omega, rfl, HB0.out, HC0.out⟩
  case round =>
    clear HB0 HC0
    obtain ⟨i, hi, rfl, rfl, hblk, hchg⟩ := hrel
    have HBK := Lib.hid hblk; have HC := Lib.hid hchg
    clear hblk hchg
    by_cases hlt : i < V.length
    · have d0 : decide (i < V.length) = true := by simpa using hlt
      have c0 := (HV.out.chg HC.out (fun x => x)) i hlt
      rw [← part_lt hlt] at c0
      have hp8 := (HWF.out.part_le i).1
      have HP := Lib.hid (HWF.out.part_le i).2
      have HS := Lib.hid (show aftF V T (i + 1) = aftP (part V i) (at0 T i) (aftF V T i) (part V i).length from rfl)
      have hx := at0_le HLE.out i
      have HTC := Lib.hid (nats_at HT.out (i := i) (by rw [HTL.out]; exact hlt))
      have HOL := Lib.hid (aftF_len V T i); have HOE := Lib.hid (aftF_le V T i)
      obtain ⟨p, hp⟩ : ∃ p, part V i = p := ⟨_, rfl⟩
      obtain ⟨x, hxx⟩ : ∃ x, at0 T i = x := ⟨_, rfl⟩
      obtain ⟨o, ho⟩ : ∃ o, aftF V T i = o := ⟨_, rfl⟩
      rw [hp] at c0 hp8 HP HS
      rw [hxx] at HS hx HTC
      rw [ho] at HS HOL HOE HBK
      clear hp hxx ho
      have hsz := str_size p
      go_wp2_with fail
      clear c0
      go_loopg [21] p.length (fun gm kv wr => ∃ k : Nat, k ≤ p.length ∧ gm = p.length - k ∧ kv = .int .i64 k ∧ Blk wr B 3 (nv (aftP p x o k)) ∧ Chg (fun _ => False) w wr)
      case atStart => exact ⟨0, by omega, by omega, rfl, HBK.out, HC.out⟩
      case round =>
        clear HBK HC
        obtain ⟨k, hk, rfl, rfl, hblk, hchg⟩ := hrel
        have HBK := Lib.hid hblk; have HC := Lib.hid hchg
        clear hblk hchg
        by_cases hkl : k < p.length
        · have d1 : decide (k < p.length) = true := by simpa using hkl
          have hcn := HP.out _ (List.getElem_mem hkl)
          have hidx := index_chr hkl (by omega)
          have hu8 := u8_chr p[k] (by omega)
          have HSK : Hid (aftP p x o (k + 1) = (aftP p x o k).set p[k] (min (at0 (aftP p x o k) p[k] + x) lim)) := Lib.hid (by rw [aftP, at0_lt_of hkl])
          have hm := at0_le (aftP_le p x HOE.out k) p[k]
          have k1 := HBK.out.cell_some (nv_at (i := p[k]) (by rw [aftP_len, HOL.out]; omega))
          have k2 := HC.out.cell_some HTC.out (fun x => x)
          obtain ⟨c, hc⟩ : ∃ c, p[k] = c := ⟨_, rfl⟩
          rw [hc] at hcn hu8 HSK hm k1
          simp only [hc] at hidx
          obtain ⟨C, hC⟩ : ∃ C, 97 + c = C := ⟨_, rfl⟩
          rw [hC] at hu8
          simp only [hC] at hidx
          obtain ⟨m, hmm⟩ : ∃ m, at0 (aftP p x o k) c = m := ⟨_, rfl⟩
          rw [hmm] at HSK hm k1
          clear hc hC hmm
          have hci : (c : Int) < (V.length : Int) := by omega
          have hii : (i : Int) < (V.length : Int) := by omega
          have f1 := HBK.out.free c
          have HPL := Lib.hid (plus_any m x hm hx)
          go_wp2_with fail
          go_still_tail 18, (by kernel_rfl)
          still_call (HPL.out _)
          repeat still_step
          refine wpStill_nil ?_
          change wpList _ _ _ _ _ wr.drew
          have HC1 := Lib.hid HC.out.drew; have HB1 := Lib.hid HBK.out.drew
          clear k1 k2 f1 hidx hu8
          generalize wr.drew = W1 at HC1 HB1 ⊢
          have k1 := HB1.out.cell_some (nv_at (i := c) (by rw [aftP_len, HOL.out]; omega))
          have f1 := HB1.out.free c
          go_wp2_with fail
          go_roundg (p.length - (k + 1))
          case measure => omega
          case rel =>
            refine ⟨k + 1, by omega, rfl, by go_num, ?_, HC1.out.setCell (.inr (by rw [HB.out]; exact Nat.le_refl _)) _⟩
            rw [HSK.out, nv_set]
            exact HB1.out.set c _
        · obtain rfl : k = p.length := by omega
          go_wp2_with fail
          go_roundg (V.length - (i + 1))
          case measure => omega
          case rel => exact ⟨i + 1, by omega, rfl, by go_num, by rw [HS.out]; exact HBK.out, HC.out⟩
    · obtain rfl : i = V.length := by omega
      go_wp2_with fail
      go_ret
      exact ⟨rfl, HBK.out, HC.out⟩
end Go.Proofs.YtilacamhjibneaaDoor
