/- The tally after some years; which parts live. Their conditions are their premises. -/
import Derived.Test.YtilacamhjibneaaDoorV5
set_option linter.unusedVariables false
namespace Go.Proofs.YtilacamhjibneaaDoor
open Go.RowKit

theorem yearly_any (y : Int) (w : World) : Calls Tryd.prog 68 #[.int .i64 y] w fun e w' => e = .returned (.bool (decide (0 ≤ y ∧ y ≤ 1000))) ∧ w' = w := by
  go_enter Tryd.func68, Tryd.ntmps68
  go_wp2_with fail
  all_goals
    go_ret
    exact ⟨ret_bool (by simp <;> omega), rfl⟩

def agedF (V : List (List Nat)) (t : List Nat) : Nat → List Nat
  | 0 => cntV V.length t
  | y + 1 => aftV V (agedF V t y)
theorem cntV_len (n : Nat) (t : List Nat) : (cntV n t).length = n := cntF_len n t _
theorem agedF_len (V : List (List Nat)) (t : List Nat) : ∀ y, (agedF V t y).length = V.length
  | 0 => cntV_len _ _
  | y + 1 => aftF_len V _ _
theorem agedF_le (V : List (List Nat)) (t : List Nat) (ht : t.length ≤ 200000) : ∀ y, ∀ x ∈ agedF V t y, x ≤ lim
  | 0 => fun x hx => by have := cntF_le V.length t _ x hx; unfold lim; omega
  | y + 1 => aftF_le V _ _

set_option maxRecDepth 100000 in
set_option maxHeartbeats 1000000 in
theorem aged_any (V : List (List Nat)) (hV : WF V) (t : List Nat) (ht : ∀ c ∈ t, c < V.length) (hl : t.length ≤ 200000) (years : Nat) (hy : years ≤ 1000) (b off cap : Nat) (w : World) (hv : VAt w b off V) :
    Calls Tryd.prog 76 #[.slice (some ⟨b, off, none⟩) V.length cap, .string (str t), .int .i64 (years : Int)] w fun e w' =>
      (∃ g, e = .returned (.slice (some ⟨g, 0, none⟩) V.length V.length) ∧ w.heap.size ≤ g ∧ Blk w' g 3 (nv (agedF V t years))) ∧ Chg (fun _ => False) w w' := by
  have HV := Lib.hid hv; have HWF := Lib.hid hV
  have HCN := Lib.hid (counts_any V.length t (some ⟨b, off, none⟩) cap w (by have := hV.le; omega) ht hl)
  have HLE := Lib.hid (agedF_le V t hl); have HLN := Lib.hid (agedF_len V t)
  clear hv hV ht
  go_enter Tryd.func76, Tryd.ntmps76
  go_wp2_with fail
  refine HCN.out.mono ?_
  rintro e w1 ⟨rfl, hb1, hc1⟩
  obtain ⟨g0, hg0⟩ : ∃ g0, w.heap.size = g0 := ⟨_, rfl⟩
  rw [hg0] at hb1 ⊢
  have HB1 := Lib.hid hb1; have HC1 := Lib.hid hc1; have HG0 := Lib.hid (show g0 ≤ g0 from Nat.le_refl _)
  have HGW := Lib.hid hg0
  clear hb1 hc1 hg0
  go_wp2_with fail
  go_loopg [12, 7] years (fun gm iv tv wr => ∃ k g : Nat, k ≤ years ∧ gm = years - k ∧ iv = .int .i64 k ∧ tv = .slice (some ⟨g, 0, none⟩) V.length V.length ∧ g0 ≤ g ∧ Blk wr g 3 (nv (agedF V t k)) ∧ Chg (fun _ => False) w wr)
  case atStart => exact ⟨0, g0, by omega, by omega, rfl, rfl, HG0.out, HB1.out, HC1.out⟩
  case round =>
    clear HB1 HC1
    obtain ⟨k, g, hk, rfl, rfl, rfl, hgg, hblk, hchg⟩ := hrel
    have HBK := Lib.hid hblk; have HC := Lib.hid hchg; have HGG := Lib.hid hgg
    clear hblk hchg hgg
    by_cases hlt : k < years
    · have d0 : decide ((k : Int) < (years : Int)) = true := by simp; omega
      have HA := Lib.hid (after_any V HWF.out (agedF V t k) b off cap g 0 V.length wr (HV.out.chg HC.out (fun x => x)) (nats_of_blk HBK.out) (HLN.out k) (HLE.out k))
      go_wp2_with fail
      refine HA.out.mono ?_
      rintro e w2 ⟨rfl, hb2, hc2⟩
      obtain ⟨g2, hg2⟩ : ∃ g2, wr.heap.size = g2 := ⟨_, rfl⟩
      rw [hg2] at hb2 ⊢
      have HB2 := Lib.hid hb2; have HC2 := Lib.hid (HC.out.trans hc2 (fun _ x => x.elim)); have HG2 := Lib.hid (show g0 ≤ g2 by have := HC.out.size; have := HGW.out; omega)
      clear hb2 hc2 hg2
      go_wp2_with fail
      go_roundg (years - (k + 1))
      case measure => omega
      case rel => exact ⟨k + 1, g2, by omega, rfl, by go_num, rfl, HG2.out, HB2.out, HC2.out⟩
    · obtain rfl : k = years := by omega
      go_wp2_with fail
      go_ret
      exact ⟨⟨g, rfl, by rw [HGW.out]; exact HGG.out, HBK.out⟩, HC.out⟩

def bv (l : List Bool) : List Value := l.map Value.bool
def atB (l : List Bool) (i : Nat) : Bool := l[i]?.getD false
theorem bv_at {N : List Bool} {i : Nat} (h : i < N.length) : (bv N)[i]? = some (.bool (atB N i)) := by
  unfold bv atB
  rw [List.getElem?_map, List.getElem?_eq_getElem h]
  rfl
theorem bv_set (N : List Bool) (i : Nat) (v : Bool) : bv (N.set i v) = (bv N).set i (.bool v) := by
  unfold bv
  rw [List.map_set]
theorem atB_set (N : List Bool) (i : Nat) (v : Bool) (j : Nat) (h : i < N.length) : atB (N.set i v) j = if i = j then v else atB N j := by
  unfold atB
  by_cases hij : i = j
  · subst hij
    rw [if_pos rfl, List.getElem?_set_self h]
    rfl
  · rw [if_neg hij, List.getElem?_set_ne hij]
def BoolsAt (w : World) (b off : Nat) (l : List Bool) : Prop := ∀ k (h : k < l.length), w.cell? ⟨b, off + k, none⟩ = some (.bool l[k])
theorem BoolsAt.chg {S : Nat → Prop} {w w' : World} {b off : Nat} {l : List Bool} (h : BoolsAt w b off l) (hc : Chg S w w') (hn : ¬ S b) : BoolsAt w' b off l := fun k hk => hc.cell_some (h k hk) hn
theorem bools_at {w : World} {b off : Nat} {l : List Bool} (h : BoolsAt w b off l) {i : Nat} (hi : i < l.length) : w.cell? ⟨b, off + i, none⟩ = some (.bool (atB l i)) := by
  have := h i hi
  unfold atB
  rw [List.getElem?_eq_getElem hi]
  exact this
theorem bools_of_blk {w : World} {B e : Nat} {N : List Bool} (h : Blk w B e (bv N)) : BoolsAt w B 0 N := fun k hk => by
  rw [Nat.zero_add]
  refine h.cell_some ?_
  unfold bv
  rw [List.getElem?_map, List.getElem?_eq_getElem hk]
  rfl
theorem info4 : (Tryd.prog.info? 4).map (fun i => (i.zero, i.size, i.bytes)) = some (some (.bool false), 1, 1) := by kernel_rfl
theorem make_bools (N : Nat) (hN : N ≤ 1000) (w : World) : (Instr.makeSlice 77 (.int .i64 N) (.int .i64 N)).run Tryd.prog w = .ok (.slice (some ⟨w.heap.size, 0, none⟩) N N) (w.alloc (.cells (Array.replicate N (.bool false)) 4)) := by
  obtain ⟨i0, hi0, hz0, hz1, hz2⟩ := info_parts info4
  have := run_make (P := Tryd.prog) w 77 4 i0 _ Tryd.underlying77 hi0 hz0 .i64 .i64 N N (by omega) (by omega) (by rw [hz2]; omega) (by omega)
  rw [this, hz1, Nat.mul_one, show (Value.bool false).cells = #[Value.bool false] from rfl, madeCells_one]
  rfl
theorem made_bools (N : Nat) (w : World) : Blk (w.alloc (.cells (Array.replicate N (.bool false)) 4)) w.heap.size 4 (bv (List.replicate N false)) := by
  have := Blk.new w (Array.replicate N (.bool false)) 4
  simpa [bv] using this

/-- Which parts live a year longer, if those of L live. -/
def lvP (p : List Nat) (L : List Bool) (i : Nat) (o : List Bool) : Nat → List Bool
  | 0 => o
  | k + 1 => (lvP p L i o k).set i (atB (lvP p L i o k) i || atB L (at0 p k))
def lvF (V : List (List Nat)) (L : List Bool) : Nat → List Bool
  | 0 => List.replicate V.length false
  | i + 1 => lvP (part V i) L i (lvF V L i) (part V i).length
def livF (V : List (List Nat)) : Nat → List Bool
  | 0 => List.replicate V.length true
  | y + 1 => lvF V (livF V y) V.length
def livV (V : List (List Nat)) (years : Nat) : List Bool := livF V (min years V.length)
theorem lvP_len (p : List Nat) (L : List Bool) (i : Nat) (o : List Bool) : ∀ k, (lvP p L i o k).length = o.length
  | 0 => rfl
  | k + 1 => by rw [lvP, List.length_set, lvP_len p L i o k]
theorem lvF_len (V : List (List Nat)) (L : List Bool) : ∀ i, (lvF V L i).length = V.length
  | 0 => by simp [lvF]
  | i + 1 => by rw [lvF, lvP_len, lvF_len V L i]
theorem livF_len (V : List (List Nat)) : ∀ y, (livF V y).length = V.length
  | 0 => by simp [livF]
  | y + 1 => lvF_len V _ _
end Go.Proofs.YtilacamhjibneaaDoor
