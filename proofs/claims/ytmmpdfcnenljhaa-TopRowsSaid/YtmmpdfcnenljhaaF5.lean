/- slices.Clone and slices.Delete of fences, and the fences without the first one, walked. Their conditions are their premises. -/
import Derived.Test.YtmmpdfcnenljhaaF4
import Derived.Deep.RegionLaw
import Derived.Deep.MidRow
import Derived.Lib.SliceRun
set_option linter.unusedVariables false
namespace Go.Proofs.Ytmmpdfcnenljhaa
open Go.RowKit

theorem info24 : (Try.prog.info? 24).map (fun i => (i.zero, i.size, i.bytes)) = some (some (.agg #[.int .i64 0, .int .i64 0]), 2, 16) := by kernel_rfl

theorem _root_.Go.Chg.setCells {S : Nat → Prop} {w w' : World} {b : Nat} (h : Chg S w w') (hb : S b ∨ w.heap.size ≤ b) : ∀ (vs : List Value) (o : Nat), Chg S w (w'.setCells b o vs) := by
  intro vs
  induction vs generalizing w' with
  | nil => intro o; exact h
  | cons v r ih => intro o; exact ih (h.setCell (a := ⟨b, o, none⟩) hb v) (o + 1)

theorem some_setCells {w : World} {b o : Nat} {vs : List Value} {x : Addr} (h : (w.cell? x).isSome = true) : ((w.setCells b o vs).cell? x).isSome = true := World.isSome_setCells b vs o w x h

/-- A row of fences of the call's own. -/
structure FRow (w : World) (g : Nat) (l : List Fe) (cap : Nat) : Prop where
  at_ : FencesAt w g 0 l
  there : ∀ j, j < cap * 2 → (w.cell? ⟨g, j, none⟩).isSome = true
  free : ∀ j, w.frozen? ⟨g, j, none⟩ = false
  le : l.length ≤ cap
  lt : g < w.heap.size
  max : cap ≤ 9223372036854775807

def feCells (f : Fe) : List Value := [.int .i64 f.a, .int .i64 f.b]
theorem feCells_len (l : List Fe) : (l.flatMap feCells).length = l.length * 2 := by
  induction l with
  | nil => rfl
  | cons f l ih => rw [List.flatMap_cons, List.length_append, ih]; simp [feCells]; omega
theorem feCells_get : ∀ (l : List Fe) (k : Nat) (hk : k < l.length), (l.flatMap feCells)[k * 2]? = some (.int .i64 l[k].a) ∧ (l.flatMap feCells)[k * 2 + 1]? = some (.int .i64 l[k].b) := by
  intro l
  induction l with
  | nil => intro k hk; simp at hk
  | cons f l ih =>
    intro k hk
    cases k with
    | zero => exact ⟨rfl, rfl⟩
    | succ k =>
      have := ih k (by simpa using hk)
      rw [List.flatMap_cons, show (k + 1) * 2 = k * 2 + 2 by omega]
      exact this
theorem feCells_one (l : List Fe) : ∀ u ∈ l.flatMap feCells, u.oneCell' = true := fun u hu => by
  obtain ⟨f, _, hu⟩ := List.mem_flatMap.1 hu
  simp [feCells] at hu
  rcases hu with rfl | rfl <;> rfl
theorem fences_cell {w : World} {b off : Nat} {l : List Fe} (h : FencesAt w b off l) {j : Nat} {u : Value} (hu : (l.flatMap feCells)[j]? = some u) : w.cell? ⟨b, off + j, none⟩ = some u := by
  have hlt := (List.getElem?_eq_some_iff.1 hu).1
  rw [feCells_len] at hlt
  have hk : j / 2 < l.length := by omega
  obtain ⟨g0, g1⟩ := feCells_get l (j / 2) hk
  obtain ⟨c0, c1⟩ := h (j / 2) hk
  rcases (show j = j / 2 * 2 ∨ j = j / 2 * 2 + 1 by omega) with e | e
  · rw [e] at hu ⊢
    rw [g0] at hu
    cases hu
    exact c0
  · rw [e] at hu ⊢
    rw [g1] at hu
    cases hu
    rw [← Nat.add_assoc]; exact c1
theorem fences_of {w : World} {b off : Nat} {l : List Fe} (h : ∀ j u, (l.flatMap feCells)[j]? = some u → w.cell? ⟨b, off + j, none⟩ = some u) : FencesAt w b off l := fun k hk => by
  obtain ⟨g0, g1⟩ := feCells_get l k hk
  exact ⟨h _ _ g0, by rw [Nat.add_assoc]; exact h _ _ g1⟩

theorem owns_frow {w : World} {base : Nat} {v : Value} {l : List Fe} (h : w.ownsRow base 24 2 v l.length (l.flatMap feCells)) (hn : 0 < l.length) : ∃ g c, v = .slice (some ⟨g, 0, none⟩) l.length c ∧ base ≤ g ∧ FRow w g l c := by
  rcases h.2 with ⟨_, h0⟩ | ⟨g, c, cur, rfl, hb, hg, hn', hc, hsz, htk⟩
  · omega
  · refine ⟨g, c, rfl, hb, fences_of (fun j u hu => ?_), fun j hj => ?_, fun j => ?_, hn', (Array.getElem?_eq_some_iff.1 hg).1, hc⟩
    · have := h.cells (g := g) rfl j u hu
      rwa [add_plain] at this
    · have : j < cur.size := by omega
      simp [World.cell?, hg, this]
    · simp [World.frozen?, hg]

theorem clone_facts {w w1 : World} {v1 : Value} {l : List Fe} (hown : w1.ownsRow w.heap.size 24 2 v1 (0 + l.length) ([] ++ l.flatMap feCells))
    (hgrow : (w.alloc (.cells #[] 24)).grownBy w1 (Value.slice (some ⟨w.heap.size, 0, none⟩) 0 0).ownBlock) (h1 : 1 ≤ l.length) :
    ∃ g c, v1 = .slice (some ⟨g, 0, none⟩) l.length c ∧ w.heap.size ≤ g ∧ FRow w1 g l c ∧ Chg (fun _ => False) w w1 := by
  rw [List.nil_append, Nat.zero_add] at hown
  obtain ⟨g, c, rfl, hg, hr⟩ := owns_frow hown (by omega)
  refine ⟨g, c, rfl, hg, hr, ((Chg.refl (fun _ => False) w).alloc (.cells #[] 24)).trans (Chg.of_grownRow hgrow) (fun k e => .inr ?_)⟩
  simp [Value.ownBlock] at e
  omega

set_option maxRecDepth 100000 in
set_option maxHeartbeats 1000000 in
theorem clone_any (l : List Fe) (b off cap : Nat) (w : World) (hs : FencesAt w b off l) (h1 : 1 ≤ l.length) (h2 : l.length ≤ 1000) :
    Calls Try.prog 69 #[.slice (some ⟨b, off, none⟩) l.length cap] w fun e w' => ∃ g c, e = .returned (.slice (some ⟨g, 0, none⟩) l.length c) ∧ w.heap.size ≤ g ∧ FRow w' g l c ∧ Chg (fun _ => False) w w' := by
  obtain ⟨i0, hi0, hz0, hz1, hz2⟩ := info_parts info24
  have heql : ∀ (w : World) (a : Option Addr) (l c : Nat), (binOp .eql 22 (.slice a l c) (.slice none 0 0)).run Try.prog w = .ok (.bool a.isNone) w := fun w a l c => Lib.run_eql_slice_nil w 22 24 a l c 0 0 Try.underlying22
  have HI0 := Lib.hid hi0; have HZ0 := Lib.hid hz0; have HZ1 := Lib.hid hz1; have HZ2 := Lib.hid hz2
  have HEM := Lib.hid (show Blk (w.alloc (.cells #[] 24)) w.heap.size 24 [] from Blk.new w #[] 24)
  have HSRC : Hid (l.length = 0 ∨ ∃ a', some (⟨b, off, none⟩ : Addr) = some a' ∧ ∀ j u, (l.flatMap feCells)[j]? = some u → (w.alloc (.cells #[] 24)).cell? (a'.add j) = some u) := Lib.hid (.inr ⟨_, rfl, fun j u hu => by
    rw [add_plain]
    exact fences_cell (hs.chg ((Chg.refl (fun _ => False) w).alloc _) (fun x => x)) hu⟩)
  clear hs hi0 hz0 hz1 hz2
  go_enter Try.func69, Try.ntmps69
  go_wp2_with (at_builtin; refine wpList_append_all rfl (.tmp 5) (.tmp 6) 22 rfl w.heap.size 24 i0 _ 2 16 Try.underlying22 HI0.out HZ0.out HZ1.out HZ2.out rfl (by decide) _ 0 [] rfl (owns_empty (g := w.heap.size) HEM.out (Nat.le_refl _)) (some ⟨b, off, none⟩) l.length cap (l.flatMap feCells) rfl (feCells_len l) HSRC.out (feCells_one l) (by simp [maxLen]; omega) (by omega) (by simp) ?_; intro v1 w1 hown1 hgrow1 hv1; have HOWN1 := Lib.hid hown1; have HGROW1 := Lib.hid hgrow1; clear hown1 hgrow1 hv1)
  obtain ⟨g, c, rfl, hg, hr, hch⟩ := clone_facts HOWN1.out HGROW1.out h1
  go_ret
  exact ⟨g, c, rfl, hg, hr, hch⟩

theorem run_clear_one (w : World) (ty : TypeId) (g o c : Nat) (hc : ∀ j, j < 2 → (w.cell? ⟨g, o + j, none⟩).isSome = true) (hf : ∀ j, w.frozen? ⟨g, j, none⟩ = false) :
    (Builtin.clear_ #[22] ty #[.slice (some ⟨g, o, none⟩) 1 c]).run Try.prog w = .ok (.tuple #[]) (w.setCells g o [.int .i64 0, .int .i64 0]) := by
  obtain ⟨i0, hi0, hz0, hz1, hz2⟩ := info_parts info24
  have hst := run_storeCells_cells (P := Try.prog) g o [.int .i64 0, .int .i64 0] 0 w (by simpa using hc) (by intro j hj; exact hf _) (by intro v hv; simp at hv; rcases hv with rfl | rfl <;> rfl)
  simp only [Nat.add_zero] at hst
  have hzv : ∀ w, (zeroValue 24).run Try.prog w = .ok (.agg #[.int .i64 0, .int .i64 0]) w := fun w => by simp [zeroValue, typeInfo, hi0, hz0]
  simp [Builtin.clear_, run_underlying Try.underlying22, hzv]
  have hzc : (Builtin.zeroCells (Value.agg #[Value.int IntKind.i64 0, Value.int IntKind.i64 0]).cells 1).toList = [Value.int IntKind.i64 0, Value.int IntKind.i64 0] := by
    rw [show (Value.agg #[Value.int IntKind.i64 0, Value.int IntKind.i64 0]).cells = #[Value.int IntKind.i64 0, Value.int IntKind.i64 0] by rfl]
    simp [Builtin.zeroCells]
    apply List.ext_getElem
    · simp
    · intro i h1 h2
      have : i = 0 ∨ i = 1 := by simp at h2; omega
      rcases this with rfl | rfl <;> simp
  rw [hzc, hst]
  rfl

theorem delete_facts {w W1 W2 : World} {g cap : Nat} {f : Fe} {r : List Fe} (h : FRow w g (f :: r) cap) (h1 : W1 = w.setCells g 0 (r.flatMap feCells)) (h2 : W2 = W1.setCells g (r.length * 2) [.int .i64 0, .int .i64 0]) :
    FRow W2 g r cap ∧ Chg (fun k => k = g) w W2 := by
  have hle := h.le
  simp at hle
  have hch : Chg (fun k => k = g) w W2 := by
    rw [h2, h1]
    exact ((Chg.refl (fun k => k = g) w).setCells (.inl rfl) _ _).setCells (.inl rfl) _ _
  refine ⟨⟨fences_of (fun j u hu => ?_), fun j hj => ?_, fun j => ?_, by omega, Nat.lt_of_lt_of_le h.lt hch.size, h.max⟩, hch⟩
  · obtain ⟨hlt, rfl⟩ := List.getElem?_eq_some_iff.1 hu
    have hl2 := hlt
    rw [feCells_len] at hl2
    rw [h2, World.cell?_setCells_out g _ _ _ _ (fun _ _ => .inl (by show 0 + j < _; omega)), h1]
    exact World.cell?_setCells_in g _ 0 w (fun k hk => by
      rw [feCells_len] at hk
      rw [Nat.zero_add]
      exact h.there k (by omega)) j hlt
  · rw [h2, h1]; exact some_setCells (some_setCells (h.there j hj))
  · rw [h2, h1, World.frozen?_setCells, World.frozen?_setCells]; exact h.free j

set_option maxRecDepth 100000 in
set_option maxHeartbeats 1000000 in
theorem delete_any (f : Fe) (r : List Fe) (g cap : Nat) (w : World) (hF : FRow w g (f :: r) cap) (hr : r.length ≤ 1000) :
    Calls Try.prog 68 #[.slice (some ⟨g, 0, none⟩) (r.length + 1) cap, .int .i64 0, .int .i64 1] w fun e w' => e = .returned (.slice (some ⟨g, 0, none⟩) r.length cap) ∧ FRow w' g r cap ∧ Chg (fun k => k = g) w w' := by
  obtain ⟨i0, hi0, hz0, hz1, hz2⟩ := info_parts info24
  have hle : r.length + 1 ≤ cap := by have := hF.le; simpa using this
  have hmax := hF.max
  have h1r : (1 : Int) ≤ (r.length : Int) + 1 := by omega
  obtain ⟨A, hA, hsrc⟩ : ∃ A : Addr, (if cap = 1 then some (⟨g, 0, none⟩ : Addr) else some ⟨g, 2, none⟩) = some A ∧ Hid (∀ t u, (r.flatMap feCells)[t]? = some u → w.drew.cell? (A.add t) = some u) := by
    by_cases h : cap = 1
    · refine ⟨⟨g, 0, none⟩, by simp [h], fun t u hu => ?_⟩
      have h0 : r = [] := List.eq_nil_of_length_eq_zero (by omega)
      rw [h0] at hu
      simp at hu
    · refine ⟨⟨g, 2, none⟩, by simp [h], fun t u hu => ?_⟩
      rw [add_plain]
      have h2 : ((f :: r).flatMap feCells)[t + 2]? = some u := by rw [List.flatMap_cons]; exact hu
      have := fences_cell hF.at_ h2
      rw [Nat.zero_add, Nat.add_comm] at this
      exact this
  have HSP : Hid (∀ t, t < (r.flatMap feCells).length → (w.drew.cell? ⟨g, 0 + 0 * 2 + t, none⟩).isSome = true ∧ w.drew.frozen? ⟨g, 0 + 0 * 2 + t, none⟩ = false) := Lib.hid (fun t ht => by
    rw [feCells_len] at ht
    rw [show 0 + 0 * 2 + t = t by omega]
    exact ⟨hF.there t (by omega), hF.free t⟩)
  obtain ⟨W1, hW1⟩ : ∃ W1, W1 = w.drew.setCells g (0 + 0 * 2) (r.flatMap feCells) := ⟨_, rfl⟩
  have hW1' : W1 = w.drew.setCells g 0 (r.flatMap feCells) := hW1
  have hF1 : FRow w.drew g (f :: r) cap := ⟨hF.at_, hF.there, hF.free, hF.le, hF.lt, hF.max⟩
  have hcl : ∀ ty, (Builtin.clear_ #[22] ty #[.slice (some ⟨g, r.length * 2, none⟩) 1 (cap - r.length)]).run Try.prog W1 = .ok (.tuple #[]) (W1.setCells g (r.length * 2) [.int .i64 0, .int .i64 0]) := fun ty =>
    run_clear_one W1 ty g (r.length * 2) _ (fun j hj => by rw [hW1']; exact some_setCells (hF1.there _ (by omega))) (fun j => by rw [hW1', World.frozen?_setCells]; exact hF1.free j)
  have HFIN := Lib.hid (delete_facts hF1 hW1' rfl)
  have HSRC := hsrc; have HW1 := Lib.hid hW1; have HI0 := Lib.hid hi0; have HZ1 := Lib.hid hz1
  have hdr : Chg (fun k => k = g) w w.drew := (Chg.refl _ w).drew
  have HDR := Lib.hid hdr
  clear hF hF1 hW1 hW1' hsrc hi0 hz0 hz1 hz2 hdr
  go_enter Try.func68, Try.ntmps68
  go_wp2_with fail
  go_region_law (refine step_append_room rfl (.tmp 22) (.tmp 25) 22 rfl 24 i0 2 Try.underlying22 HI0.out HZ1.out g 0 0 cap (by simp [Act.eval, Act.put]) A r.length (cap - 1) (r.flatMap feCells) (by simp [Act.eval, Act.put]) (feCells_len r) HSRC.out (feCells_one r) (by omega) HSP.out ?_; rw [← HW1.out])
  go_wp2_with fail
  go_ret
  obtain ⟨h5, h6⟩ := HFIN.out
  exact ⟨rfl, h5, HDR.out.trans h6 (fun _ x => .inl x)⟩

theorem without_any (f : Fe) (r : List Fe) (b off cap : Nat) (w : World) (hs : FencesAt w b off (f :: r)) (hr : r.length ≤ 100) :
    Calls Try.prog 47 #[.slice (some ⟨b, off, none⟩) (r.length + 1) cap, .int .i64 0] w fun e w' => ∃ g c, e = .returned (.slice (some ⟨g, 0, none⟩) r.length c) ∧ w.heap.size ≤ g ∧ FRow w' g r c ∧ Chg (fun _ => False) w w' := by
  have HCL := Lib.hid (clone_any (f :: r) b off cap w hs (by simp) (by simp; omega))
  clear hs
  go_enter Try.func47, Try.ntmps47
  go_wp2_with fail
  refine HCL.out.mono ?_
  rintro e w1 ⟨g, c, rfl, hg, hF, hc1⟩
  have HF := Lib.hid hF; have HC1 := Lib.hid hc1
  clear hF hc1
  go_wp2_with fail
  refine (delete_any f r g c w1 HF.out (by omega)).mono ?_
  rintro e w2 ⟨rfl, hF2, hc2⟩
  have HF2 := Lib.hid hF2; have HC2 := Lib.hid (HC1.out.trans hc2 (fun k hk => .inr (by omega)))
  clear hF2 hc2
  go_wp2_with fail
  go_ret
  exact ⟨g, c, rfl, hg, HF2.out, HC2.out⟩
end Go.Proofs.Ytmmpdfcnenljhaa
