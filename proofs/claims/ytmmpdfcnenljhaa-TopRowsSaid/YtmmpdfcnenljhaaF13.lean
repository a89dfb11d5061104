/- A polynomial as lists, walked. Its conditions are its premises. -/
import Derived.Test.YtmmpdfcnenljhaaF12
import Derived.Laws.OwnMore
set_option linter.unusedVariables false
namespace Go.Proofs.Ytmmpdfcnenljhaa
open Go.RowKit

theorem info40 : (Try.prog.info? 40).map (fun i => (i.zero, i.size, i.bytes)) = some (some (.slice none 0 0), 1, 24) := by kernel_rfl

theorem ints_one (X : List Int) : ∀ u ∈ X.map (Value.int .i64), u.oneCell' = true := fun u hu => by
  obtain ⟨x, _, rfl⟩ := List.mem_map.1 hu; rfl

theorem cloned_chg {w w1 : World} {e : TypeId} (hgrow : (w.alloc (.cells #[] e)).grownBy w1 (Value.slice (some ⟨w.heap.size, 0, none⟩) 0 0).ownBlock) : Chg (fun _ => False) w w1 := by
  refine ((Chg.refl (fun _ => False) w).alloc (.cells #[] e)).trans (Chg.of_grownRow hgrow) (fun k e => .inr ?_)
  simp [Value.ownBlock] at e
  omega

set_option maxRecDepth 100000 in
set_option maxHeartbeats 1000000 in
theorem clone_ints (X : List Int) (b off cap : Nat) (w : World) (hs : IntsAt w b off X) (h1 : 1 ≤ X.length) (h2 : X.length ≤ 1000) :
    Calls Try.prog 97 #[.slice (some ⟨b, off, none⟩) X.length cap] w fun e w' => ∃ g c, e = .returned (.slice (some ⟨g, 0, none⟩) X.length c) ∧ w.heap.size ≤ g ∧ g < w'.heap.size ∧ IntsAt w' g 0 X ∧ Chg (fun _ => False) w w' := by
  obtain ⟨i0, hi0, hz0, hz1, hz2⟩ := info_parts info3
  have heql : ∀ (w : World) (a : Option Addr) (l c : Nat), (binOp .eql 40 (.slice a l c) (.slice none 0 0)).run Try.prog w = .ok (.bool a.isNone) w := fun w a l c => Lib.run_eql_slice_nil w 40 3 a l c 0 0 Try.underlying40
  have HI0 := Lib.hid hi0; have HZ0 := Lib.hid hz0; have HZ1 := Lib.hid hz1; have HZ2 := Lib.hid hz2
  have HEM := Lib.hid (show Blk (w.alloc (.cells #[] 3)) w.heap.size 3 [] from Blk.new w #[] 3)
  have HSRC : Hid (X.length = 0 ∨ ∃ a', some (⟨b, off, none⟩ : Addr) = some a' ∧ ∀ j u, (X.map (Value.int .i64))[j]? = some u → (w.alloc (.cells #[] 3)).cell? (a'.add j) = some u) := Lib.hid (.inr ⟨_, rfl, fun j u hu => by
    rw [add_plain]
    rw [List.getElem?_map] at hu
    obtain ⟨x, hx, rfl⟩ := Option.map_eq_some_iff.1 hu
    obtain ⟨hj, rfl⟩ := List.getElem?_eq_some_iff.1 hx
    exact (hs.chg ((Chg.refl (fun _ => False) w).alloc _) (fun x => x)) j hj⟩)
  clear hs hi0 hz0 hz1 hz2
  go_enter Try.func97, Try.ntmps97
  go_wp2_with (at_builtin; refine wpList_append_all rfl (.tmp 5) (.tmp 6) 40 rfl w.heap.size 3 i0 _ 1 8 Try.underlying40 HI0.out HZ0.out HZ1.out HZ2.out rfl (by decide) _ 0 [] rfl (owns_empty (g := w.heap.size) HEM.out (Nat.le_refl _)) (some ⟨b, off, none⟩) X.length cap (X.map (Value.int .i64)) rfl (by simp) HSRC.out (ints_one X) (by simp [maxLen]; omega) (by omega) (by simp) ?_; intro v1 w1 hown1 hgrow1 hv1; have HOWN1 := Lib.hid hown1; have HGROW1 := Lib.hid hgrow1; clear hown1 hgrow1 hv1)
  have hown := HOWN1.out
  rw [List.nil_append, Nat.zero_add] at hown
  obtain ⟨g, c, rfl, hg, hlt, hI, _⟩ := owns_ints hown (by rintro rfl; simp at h1)
  go_ret
  exact ⟨g, c, rfl, hg, hlt, hI, cloned_chg HGROW1.out⟩

/-- A list in a row of lists: its memory lies behind 'base', apart from the row's own block. -/
def RowV (w : World) (o : Option Nat) (base : Nat) (x : Value) (r : List Int) : Prop :=
  ∃ ao c, x = .slice ao r.length c ∧ (r = [] ∨ ∃ g, ao = some ⟨g, 0, none⟩ ∧ base ≤ g ∧ g < w.heap.size ∧ some g ≠ o ∧ IntsAt w g 0 r)
/-- A row of lists of the call's own. -/
def RowsAt (w : World) (base : Nat) (v : Value) (rows : List (List Int)) : Prop :=
  ∃ xs, w.ownsRow base 40 1 v rows.length xs ∧ ∀ i (h : i < rows.length), ∃ x, xs[i]? = some x ∧ RowV w v.ownBlock base x rows[i]

theorem RowV.chg {w w' : World} {o o' : Option Nat} {base : Nat} {x : Value} {r : List Int} (h : RowV w o base x r) (hc : Chg (fun k => some k = o) w w') (ho : o' = o ∨ ∃ g, w.heap.size ≤ g ∧ o' = some g) : RowV w' o' base x r := by
  obtain ⟨ao, c, rfl, h⟩ := h
  refine ⟨ao, c, rfl, h.imp id fun ⟨g, h1, h2, h3, h4, h5⟩ => ⟨g, h1, h2, Nat.lt_of_lt_of_le h3 hc.size, ?_, h5.chg hc h4⟩⟩
  rcases ho with rfl | ⟨k, hk, rfl⟩
  · exact h4
  · intro e; cases e; omega

theorem RowsAt.nil (w : World) (base : Nat) : RowsAt w base (.slice none 0 0) [] := ⟨[], World.ownsRow_nil _ _ _ _, fun i h => by simp at h⟩
theorem RowsAt.chg {w w' : World} {base : Nat} {v : Value} {rows : List (List Int)} (h : RowsAt w base v rows) (hc : Chg (fun _ => False) w w') : RowsAt w' base v rows := by
  obtain ⟨xs, h1, h2⟩ := h
  exact ⟨xs, owns_chg h1 hc, fun i hi => by obtain ⟨x, hx, hr⟩ := h2 i hi; exact ⟨x, hx, hr.chg (hc.mono fun _ x => x.elim) (.inl rfl)⟩⟩
theorem RowsAt.more {w w' : World} {base : Nat} {v v' : Value} {rows : List (List Int)} {xs : List Value}
    (h1 : w.ownsRow base 40 1 v rows.length xs) (h2 : ∀ i (h : i < rows.length), ∃ x, xs[i]? = some x ∧ RowV w v.ownBlock base x rows[i])
    (ho : w'.ownsRow base 40 1 v' (rows.length + 1) (xs ++ [.slice none 0 0])) (hg : w.grownBy w' v.ownBlock) (hv : v'.ownBlock = v.ownBlock ∨ ∃ g, w.heap.size ≤ g ∧ v'.ownBlock = some g) : RowsAt w' base v' (rows ++ [[]]) := by
  have hl : xs.length = rows.length := by simpa using h1.1
  refine ⟨xs ++ [.slice none 0 0], by rw [List.length_append]; exact ho, fun i hi => ?_⟩
  by_cases h : i < rows.length
  · obtain ⟨x, hx, hr⟩ := h2 i h
    rw [List.getElem_append_left h, List.getElem?_append_left (by omega)]
    exact ⟨x, hx, hr.chg (Chg.of_grownRow hg) hv⟩
  · simp at hi
    have he : i = rows.length := by omega
    subst he
    refine ⟨.slice none 0 0, by rw [List.getElem?_append_right (by omega), hl]; simp, none, 0, by simp, .inl (by simp)⟩
theorem RowsAt.put {w : World} {base g c j : Nat} {rows : List (List Int)} {r : List Int} {k cap : Nat} (h : RowsAt w base (.slice (some ⟨g, 0, none⟩) rows.length c) rows) (hj : j < rows.length)
    (hr : IntsAt w k 0 r) (hk : base ≤ k) (hk2 : k < w.heap.size) (hne : k ≠ g) : RowsAt (w.setCell ⟨g, j, none⟩ (.slice (some ⟨k, 0, none⟩) r.length cap)) base (.slice (some ⟨g, 0, none⟩) rows.length c) (rows.set j r) := by
  obtain ⟨xs, h1, h2⟩ := h
  have hl : xs.length = rows.length := by simpa using h1.1
  obtain ⟨s1, s2⟩ := h1.stored j (.slice (some ⟨k, 0, none⟩) r.length cap)
  have hc : Chg (fun b => some b = some g) w (w.setCell ⟨g, j, none⟩ (.slice (some ⟨k, 0, none⟩) r.length cap)) := Chg.of_grownRow s2
  refine ⟨_, by rw [List.length_set]; exact s1, fun i hi => ?_⟩
  rw [List.length_set] at hi
  by_cases h : j = i
  · subst h
    refine ⟨_, by rw [List.getElem?_set, if_pos rfl, if_pos (by omega)], some ⟨k, 0, none⟩, cap, by simp, .inr ⟨k, rfl, hk, Nat.lt_of_lt_of_le hk2 hc.size, fun e => hne (by simpa [Value.ownBlock] using e), ?_⟩⟩
    rw [List.getElem_set_self]
    exact hr.chg hc (fun e => hne (by simpa using e))
  · obtain ⟨x, hx, hr⟩ := h2 i hi
    refine ⟨x, by rw [List.getElem?_set, if_neg h]; exact hx, ?_⟩
    rw [List.getElem_set_ne h]
    exact hr.chg hc (.inl rfl)

/-- A row of a polynomial. -/
def rowT (T : List Int) (j : Nat) : List Int := (T.drop (j * 15)).take 15
/-- How long a list is without zeros at its end, of its first c numbers. -/
def longTo (r : List Int) : Nat → Nat
  | 0 => 0
  | i + 1 => if r.getD i 0 ≠ 0 then i + 1 else longTo r i
theorem longTo_le (r : List Int) : ∀ c, longTo r c ≤ c
  | 0 => Nat.le_refl _
  | c + 1 => by
    rw [longTo]
    split
    · exact Nat.le_refl _
    · have := longTo_le r c; omega
/-- The lists after so many rows. -/
def outTo (T : List Int) : Nat → List (List Int)
  | 0 => []
  | j + 1 => if longTo (rowT T j) 15 = 0 then outTo T j else outTo T j ++ List.replicate (j - (outTo T j).length) [] ++ [(rowT T j).take (longTo (rowT T j) 15)]
theorem outTo_len (T : List Int) : ∀ j, (outTo T j).length ≤ j
  | 0 => Nat.le_refl _
  | j + 1 => by
    have := outTo_len T j
    rw [outTo]
    split
    · omega
    · simp; omega
theorem rowT_len {T : List Int} (hT : T.length = 225) {j : Nat} (hj : j < 15) : (rowT T j).length = 15 := by unfold rowT; simp; omega
theorem set_last {α : Type} (A : List α) (x y : α) : (A ++ [x]).set A.length y = A ++ [y] := by
  rw [List.set_append_right _ _ (Nat.le_refl _)]; simp
end Go.Proofs.Ytmmpdfcnenljhaa
