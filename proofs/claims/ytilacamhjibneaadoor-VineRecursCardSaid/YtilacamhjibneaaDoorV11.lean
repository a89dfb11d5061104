/- A shoot a year later, walked. Its conditions are its premises. -/
import Derived.Test.YtilacamhjibneaaDoorV10
import Derived.Lib.FrozenHead
import Derived.Lib.OthersKept
set_option linter.unusedVariables false
namespace Go.Proofs.YtilacamhjibneaaDoor
open Go.RowKit Go.Shelf
attribute [local go_sem] Oper.semAt_some

def bcell (c : Nat) : Value := .int .u8 ((97 + c : Nat) : Int)
theorem bcells_eq (l : List Nat) (h : ∀ c ∈ l, c < 100) : l.map bcell = Lib.byteCells (l.map chr) := by
  unfold Lib.byteCells
  rw [List.map_map]
  refine List.map_congr_left (fun c hc => ?_)
  have := h c hc
  unfold bcell chr
  simp
  omega
theorem grow1_lt {V : List (List Nat)} (hV : WF V) (t : List Nat) : ∀ c ∈ grow1 V t, c < V.length := by
  intro c hc
  obtain ⟨x, _, hx⟩ := List.mem_flatMap.1 hc
  exact (hV.part_le x).2 c hx
theorem grow1_len {V : List (List Nat)} (hV : WF V) (t : List Nat) : (grow1 V t).length ≤ 8 * t.length := by
  unfold grow1
  induction t with
  | nil => simp
  | cons c t ih =>
    rw [List.flatMap_cons, List.length_append, List.length_cons]
    have := (hV.part_le c).1
    omega

set_option maxRecDepth 100000 in
set_option maxHeartbeats 2000000 in
theorem next_any (V : List (List Nat)) (hV : WF V) (t : List Nat) (ht : ∀ c ∈ t, c < V.length) (hl : t.length ≤ 200000) (b off cap : Nat) (w : World) (hv : VAt w b off V) :
    Calls Tryd.prog 72 #[.slice (some ⟨b, off, none⟩) V.length cap, .string (str t)] w fun e w' => e = .returned (.string (str (grow1 V t))) ∧ Below w.heap.size w w' := by
  refine (callsIn_wide (n := 5)).1 ?_
  refine callsIn_of_wp_marks Tryd.func72 rfl trivial ?_ rfl
  simp only [Tryd.ntmps72, List.size_toArray, List.length_cons, List.length_nil, Nat.reduceAdd, Nat.reduceSub, Array.replicate_succ, Array.replicate_zero, List.push_toArray, List.append_toArray, List.nil_append, List.cons_append]
  gi_wp2
  refine ⟨trivial, (callsIn_wide.2 (grown_any _ _ _ _ _)).mono ?_⟩
  rintro e w' ⟨rfl, rfl⟩
  gi_wp2
  obtain ⟨bb, hbb⟩ : ∃ bb, w.heap.size = bb := ⟨_, rfl⟩
  have hv1 := vat_lt hv hV.pos
  have HW0 := Lib.hid (show Bld bb (bb + 3) [] (((w.alloc (.cells #[.pointer none, .slice none 0 0] 106)).alloc (.cells #[.slice (some ⟨b, off, none⟩) V.length cap] 59)).alloc (.cells #[.string (str t)] 9)) from by
    refine ⟨by omega, .pointer none, .slice none 0 0, ?_, .inl rfl, World.ownsRow_nil _ _ _ _⟩
    rw [Below.heap_alloc _ _ _ (by simp; omega), Below.heap_alloc _ _ _ (by simp; omega), ← hbb]
    exact World.alloc_heap_new w _)
  have HC0 := Lib.hid ((((Chg.refl (fun _ => False) w).alloc (.cells #[.pointer none, .slice none 0 0] 106)).alloc (.cells #[.slice (some ⟨b, off, none⟩) V.length cap] 59)).alloc (.cells #[.string (str t)] 9))
  have k1 := (Blk.new (w.alloc (.cells #[.pointer none, .slice none 0 0] 106)) #[.slice (some ⟨b, off, none⟩) V.length cap] 59)
  have HK1 := Lib.hid ((k1.alloc (.cells #[.string (str t)] 9)).cell_some (i := 0) rfl)
  have HK2 := Lib.hid ((Blk.new ((w.alloc (.cells #[.pointer none, .slice none 0 0] 106)).alloc (.cells #[.slice (some ⟨b, off, none⟩) V.length cap] 59)) #[.string (str t)] 9).cell_some (i := 0) rfl)
  have HSZ := Lib.hid (show (((w.alloc (.cells #[.pointer none, .slice none 0 0] 106)).alloc (.cells #[.slice (some ⟨b, off, none⟩) V.length cap] 59)).alloc (.cells #[.string (str t)] 9)).heap.size = bb + 3 by simp; omega)
  rw [World.size_alloc, hbb] at HK1
  rw [World.size_alloc, World.size_alloc, hbb] at HK2
  clear k1
  generalize ((w.alloc (.cells #[.pointer none, .slice none 0 0] 106)).alloc (.cells #[.slice (some ⟨b, off, none⟩) V.length cap] 59)).alloc (.cells #[.string (str t)] 9) = W0 at HW0 HC0 HK1 HK2 HSZ ⊢
  rw [hbb]
  have HBB := Lib.hid hbb
  have hbl : b < bb := by omega
  clear hbb hv1
  refine wpIn_rangeFunc_ownG rfl (by omega) (gf := 104) (lb := #[.pointer (some ⟨bb + 1 + 1, 0, none⟩), .pointer (some ⟨bb + 1, 0, none⟩)]) rfl trivial (enters_of Tryd.func104 (by kernel_rfl) rfl)
    (encs := fun c : Nat => #[bcell c]) (Kp := KpN bb (bb + 3)) (S := fun ys => ys = grow1 V t) (Sp := fun _ => True) (N := (grow1 V t).length) (w0 := W0)
    (fun l J Jx W hW hJ hJx hY h0 => grown1_in (5 - 1) (by omega) l bb (bb + 3) (bb + 1 + 1) (bb + 1) b off cap V hV t ht hl ⟨by omega, by omega⟩ ⟨by omega, by omega⟩ ⟨by omega, by omega⟩ J Jx hY W
      ((hW.cell (p := ⟨bb + 1 + 1, 0, none⟩) (by rw [HSZ.out]; show bb + 1 + 1 < bb + 3; omega)).trans HK2.out) ((hW.cell (p := ⟨bb + 1, 0, none⟩) (by rw [HSZ.out]; show bb + 1 < bb + 3; omega)).trans HK1.out)
      (fun k hk => (hW.cell (p := ⟨b, off + k, none⟩) (by rw [HSZ.out]; show b < bb + 3; omega)).trans (HC0.out.cell_some (hv k hk) (fun x => x)))
      (by rw [← HSZ.out]; exact hW.size) (fun s A k hs => hJ s A (A.drewN k) none hs ⟨rfl, rfl, rfl, Nat.le_refl _, fun _ _ _ => rfl⟩ (fun r e => by cases e)) h0)
    (fun h k => KpN.trans h k) (fun W l o o' hl0 _ _ _ => (Chg.of_grownRow (grownBy_putObj' W l o')).mono (fun k hk => .inr (by cases hk; rw [← HSZ.out]; exact hl0))) (Below.refl _ _) (fun _ => rfl)
    (fun pre W => (Bld bb (bb + 3) (pre.map bcell) W ∧ bb + 3 ≤ W.heap.size) ∧ Below bb w W) (fun _ _ _ => False)
    (OwnFrom.and (Own.from (fun s A B row hs hg hr => ⟨hs.1.kept hg hr, Nat.le_trans hs.2 hg.size⟩) _) (ownFrom_below (by rw [HBB.out]; exact Nat.le_refl _) (by rw [HSZ.out]; omega)))
    (fun _ _ _ _ _ hs _ _ => hs)
    ⟨⟨HW0.out, by rw [HSZ.out]; exact Nat.le_refl _⟩, by have := HC0.out.below; rw [HBB.out] at this; exact this⟩
    (fun x => { tmps := #[.slice (some ⟨b, off, none⟩) V.length cap, .string (str t), undef, undef, .string ⟨#[]⟩, .pointer (some ⟨bb, 0, none⟩), bcell x, .slice (some ⟨b, off, none⟩) V.length cap, .string (str t), .func (.func 104) #[] #[.pointer (some ⟨bb + 1 + 1, 0, none⟩), .pointer (some ⟨bb + 1, 0, none⟩)], bcell x, undef, undef, undef], defers := [] }) ?assign ?body ?done ?stop
  case assign =>
    intro l x W K hK
    gi_wp2
    exact hK
  case body =>
    rintro l pre x W ⟨⟨hbld, hsz⟩, hbel⟩ hlen
    have hg8 := grow1_len hV t
    gi_wp2
    refine ⟨trivial, (CallsIn.inRound l (callsIn_wide.2 (byte2_any bb (bb + 3) (pre.map bcell) ((97 + x : Nat) : Int) W hbld (by rw [List.length_map]; omega) hsz))).mono ?_⟩
    rintro e W' ⟨rfl, h1, h2, h3⟩
    have HPO : Hid (KeepsFrom W0.heap.size W W' ∧ KpN bb (bb + 3) W W' ∧ ((Bld bb (bb + 3) ((pre ++ [x]).map bcell) W' ∧ bb + 3 ≤ W'.heap.size) ∧ Below bb w W')) := Lib.hid
      ⟨h3.from _, h2, ⟨by rw [List.map_append]; exact h1, Nat.le_trans hsz h2.size⟩, hbel.trans ⟨h2.os, h2.tape, h2.output, h2.size, fun k hk => h2.block k (by omega) (by omega)⟩⟩
    clear h1 h2 h3 hbld hbel
    gi_wp2
    exact HPO.out
  case done =>
    rintro D ys W hD rfl ⟨⟨hbld, hsz⟩, hbel⟩ hK
    have hbf : Lib.IsBuilderF 106 5 bb bb (Lib.byteCells ((grow1 V t).map chr)) W := by
      rw [← bcells_eq _ (fun c hc => by have := grow1_lt hV t c hc; have := hV.le; omega)]
      exact hbld.at_.elim (fun h => .inl (Lib.BuilderAtF.of h)) (fun h => .inr (Lib.BuilderAtF.of h))
    gi_wp2
    refine ⟨trivial, (callsIn_wide.2 (Tryd.Builder_String_any_k bb bb ((grow1 V t).map chr) W hbf (by omega))).mono ?_⟩
    rintro e W' ⟨rfl, _, h2, h3⟩
    have hK' : W'.heap[D]? = some (.deferred (some [])) := h3 D _ hK (by intro h; cases h; have := HSZ.out; omega) (fun c fz h => by cases h)
    have HBW := Lib.hid (hbel.trans h2)
    clear h2 h3 hbld hbel hK hbf
    gi_wp2
    refine ⟨by simp, .inl ⟨_, _, rfl, run_takeDeferred hK', ?_⟩⟩
    refine ⟨_, results_tmp rfl _ _ _, rfl, ?_⟩
    have hb := HBW.out.trans (belowK_b (w := W0) (n₀ := bb) (by rw [HSZ.out]; omega) W' D _ (.deferred none) hD hK' rfl rfl)
    rw [← HBB.out] at hb
    exact hb
  case stop =>
    rintro D c pre W _ _ h _
    exact h.elim
end Go.Proofs.YtilacamhjibneaaDoor
