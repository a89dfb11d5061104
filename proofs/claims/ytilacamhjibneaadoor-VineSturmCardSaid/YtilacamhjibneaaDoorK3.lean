/- Texts on the vines, laid together (V20, V21, V22, V23, V24, V25, V26, V27, V28, V29, V30). Their conditions are their premises. -/
import Derived.Test.YtilacamhjibneaaDoorK2
import Derived.Lib.AppendStr
import Derived.Maps.Own
import Derived.Maps.Views
import Derived.Maps.OwnSet
set_option linter.unusedVariables false
/- Matrices of whole numbers in memory. Their conditions are their premises. -/
namespace Go
theorem QueB.set1 {w : World} {g o c n : Nat} {cs : List Value} (h : QueB w 1 g o c n cs) {j : Nat} (hj : j < n) (v : Value) : QueB (w.setCell ⟨g, o + j, none⟩ v) 1 g o c n (cs.set j v) := by
  have hle := h.le
  have hlen := h.len
  have hfree : ∀ k, (w.setCell ⟨g, o + j, none⟩ v).frozen? ⟨g, k, none⟩ = w.frozen? ⟨g, k, none⟩ := fun k => by
    simp [World.setCell, World.frozen?, Array.getElem?_modify]
    cases w.heap[g]? with
    | none => rfl
    | some o => cases o <;> rfl
  have hsome := h.there j (by omega)
  refine ⟨by simpa [World.setCell] using h.lt, h.le, by rw [List.length_set]; exact h.len, fun k u hk => ?_, fun k hk => ?_, fun k => by rw [hfree]; exact h.free k⟩
  · rw [List.getElem?_set] at hk
    by_cases hjk : j = k
    · subst hjk
      rw [if_pos rfl] at hk
      split at hk
      · cases hk
        obtain ⟨u0, hu0⟩ := Option.isSome_iff_exists.1 hsome
        exact World.cell?_setCell_same _ _ _ hu0
      · cases hk
    · rw [if_neg hjk] at hk
      rw [World.cell?_setCell_other _ _ _ _ (by intro e; injection e with _ e2; omega)]
      exact h.at_ k u hk
  · by_cases hjk : j = k
    · subst hjk
      obtain ⟨u0, hu0⟩ := Option.isSome_iff_exists.1 hsome
      rw [World.cell?_setCell_same _ _ _ hu0]
      rfl
    · rw [World.cell?_setCell_other _ _ _ _ (by intro e; injection e with _ e2; omega)]
      exact h.there k hk
end Go
namespace Go.Proofs.YtilacamhjibneaaDoor
open Go.RowKit

def row (A : List (List Int)) (i : Nat) : List Int := A[i]?.getD []
def ent (A : List (List Int)) (i j : Nat) : Int := (row A i)[j]?.getD 0
def ivL (l : List Int) : List Value := l.map fun x => .int .i64 x
def gv (n : Nat) (g : Nat × Nat) : Value := .slice (some ⟨g.1, 0, none⟩) n g.2
def outG (n N : Nat) (G : List (Nat × Nat)) : List Value := G.map (gv n) ++ List.replicate (N - G.length) nilS
theorem ivL_len (l : List Int) : (ivL l).length = l.length := by simp [ivL]
theorem ivL_set (l : List Int) (i : Nat) (x : Int) : ivL (l.set i x) = (ivL l).set i (.int .i64 x) := by
  unfold ivL
  rw [List.map_set]
theorem outG_at {n N : Nat} {G : List (Nat × Nat)} {k : Nat} (h : k < G.length) : (outG n N G)[k]? = some (gv n G[k]) := by
  unfold outG
  rw [List.getElem?_append_left (by simpa using h), List.getElem?_map, List.getElem?_eq_getElem h]
  rfl
theorem outG_next {n N : Nat} {G : List (Nat × Nat)} (h : G.length < N) : (outG n N G)[G.length]? = some nilS := by
  unfold outG
  rw [List.getElem?_append_right (by simp), List.getElem?_replicate, if_pos (by simp; omega)]
theorem outG_set {n N : Nat} {G : List (Nat × Nat)} (g : Nat × Nat) (h : G.length < N) : (outG n N G).set G.length (gv n g) = outG n N (G ++ [g]) := by
  unfold outG
  rw [List.set_append_right _ _ (by simp), List.length_map, Nat.sub_self]
  obtain ⟨m, hm⟩ : ∃ m, N - G.length = m + 1 := ⟨N - G.length - 1, by omega⟩
  rw [hm, List.replicate_succ, List.map_append, List.length_append, List.length_singleton, show N - (G.length + 1) = m by omega]
  simp

/-- A matrix: the rows of the blocks G. -/
structure IM (w0 w : World) (cb n N : Nat) (A : List (List Int)) (G : List (Nat × Nat)) : Prop where
  len : A.length = G.length
  le : G.length ≤ N
  outer : Blk w cb 29 (outG n N G)
  rows : ∀ k (h : k < G.length), QueB w 1 G[k].1 0 G[k].2 n (ivL (row A k))
  ne : ∀ k (h : k < G.length), G[k].1 ≠ cb
  inj : ∀ j k (hj : j < G.length) (hk : k < G.length), G[j].1 = G[k].1 → j = k
  chg : Chg (fun _ => False) w0 w
  ocb : w0.heap.size ≤ cb
  og : ∀ k (h : k < G.length), w0.heap.size ≤ G[k].1
namespace IM
variable {w0 w w' : World} {cb n N : Nat} {A : List (List Int)} {G : List (Nat × Nat)}
theorem row_len (h : IM w0 w cb n N A G) {k : Nat} (hk : k < G.length) : (row A k).length = n := by
  have := (h.rows k hk).len
  rw [ivL_len] at this
  omega
theorem outer_at (h : IM w0 w cb n N A G) {k : Nat} (hk : k < G.length) : w.cell? ⟨cb, k, none⟩ = some (.slice (some ⟨G[k].1, 0, none⟩) n G[k].2) := h.outer.cell_some (outG_at hk)
theorem outer_nil (h : IM w0 w cb n N A G) (hk : G.length < N) : w.cell? ⟨cb, G.length, none⟩ = some nilS := h.outer.cell_some (outG_next hk)
theorem ent_at (h : IM w0 w cb n N A G) {k j : Nat} (hk : k < G.length) (hj : j < n) : w.cell? ⟨G[k].1, j, none⟩ = some (.int .i64 (ent A k j)) := by
  have hl := h.row_len hk
  have := (h.rows k hk).at_ j (.int .i64 (ent A k j)) (by
    unfold ivL ent
    rw [List.getElem?_map, List.getElem?_eq_getElem (by omega)]
    rfl)
  rwa [Nat.zero_add] at this
theorem free (h : IM w0 w cb n N A G) {k : Nat} (hk : k < G.length) (j : Nat) : w.frozen? ⟨G[k].1, j, none⟩ = false := (h.rows k hk).free j
theorem kept (h : IM w0 w cb n N A G) (hc : Chg (fun _ => False) w w') : IM w0 w' cb n N A G :=
  ⟨h.len, h.le, hc.blk h.outer (fun x => x), fun k hk => (h.rows k hk).chg hc (fun x => x), h.ne, h.inj, h.chg.trans hc (fun _ x => x.elim), h.ocb, h.og⟩
theorem set (h : IM w0 w cb n N A G) {k j : Nat} (hk : k < G.length) (hj : j < n) (x : Int) : IM w0 (w.setCell ⟨G[k].1, j, none⟩ (.int .i64 x)) cb n N (A.set k ((row A k).set j x)) G := by
  refine ⟨by rw [List.length_set]; exact h.len, h.le, h.outer.setOther (h.ne k hk) _, fun i hi => ?_, h.ne, h.inj, h.chg.setCell (.inr (h.og k hk)) _, h.ocb, h.og⟩
  by_cases hik : k = i
  · subst hik
    have hr : row (A.set k ((row A k).set j x)) k = (row A k).set j x := by
      unfold row
      rw [List.getElem?_set_self (by rw [h.len]; exact hk)]
      rfl
    rw [hr, ivL_set]
    have := (h.rows k hk).set1 hj (.int .i64 x)
    rwa [Nat.zero_add] at this
  · have hr : row (A.set k ((row A k).set j x)) i = row A i := by
      unfold row
      rw [List.getElem?_set_ne hik]
    rw [hr]
    exact (h.rows i hi).chg ((Chg.refl (fun b => b = G[k].1) w).setCell (a := ⟨G[k].1, j, none⟩) (.inl rfl) _) (fun e => hik (h.inj i k hi hk e).symm)
theorem next (h : IM w0 w cb n N A G) (hlt : G.length < N) {g c : Nat} {l : List Int} (hc : Chg (fun k => k = cb) w w') (ho : Blk w' cb 29 (outG n N (G ++ [(g, c)]))) (hq : QueB w' 1 g 0 c n (ivL l)) (hg : w.heap.size ≤ g) : IM w0 w' cb n N (A ++ [l]) (G ++ [(g, c)]) := by
  have hcb := h.outer.lt
  have hgl : ∀ k (hk : k < G.length), G[k].1 < w.heap.size := fun k hk => (h.rows k hk).lt
  have hl : (G ++ [(g, c)]).length = G.length + 1 := by simp
  have hlast : ∀ hk : G.length < (G ++ [(g, c)]).length, (G ++ [(g, c)])[G.length] = (g, c) := fun hk => by simp
  have hfst : ∀ k (hk : k < G.length) (hk' : k < (G ++ [(g, c)]).length), (G ++ [(g, c)])[k] = G[k] := fun k hk hk' => List.getElem_append_left hk
  refine ⟨by simp [h.len], by omega, ho, fun k hk => ?_, fun k hk => ?_, fun j k hj hk he => ?_, h.chg.trans hc (fun b hb => .inr (by have := h.ocb; omega)), h.ocb, fun k hk => ?_⟩
  · by_cases hkl : k < G.length
    · rw [hfst k hkl hk, show row (A ++ [l]) k = row A k by unfold row; rw [List.getElem?_append_left (by rw [h.len]; exact hkl)]]
      exact (h.rows k hkl).chg hc (h.ne k hkl)
    · obtain rfl : k = G.length := by omega
      rw [hlast hk, show row (A ++ [l]) G.length = l by unfold row; rw [← h.len]; simp]
      exact hq
  · by_cases hkl : k < G.length
    · rw [hfst k hkl hk]; exact h.ne k hkl
    · obtain rfl : k = G.length := by omega
      rw [hlast hk]
      show g ≠ cb
      omega
  · by_cases hkl : k < G.length
    · by_cases hjl : j < G.length
      · rw [hfst k hkl hk, hfst j hjl hj] at he
        exact h.inj j k hjl hkl he
      · obtain rfl : j = G.length := by omega
        rw [hfst k hkl hk, hlast hj] at he
        have := hgl k hkl
        simp only at he
        omega
    · obtain rfl : k = G.length := by omega
      by_cases hjl : j < G.length
      · rw [hlast hk, hfst j hjl hj] at he
        have := hgl j hjl
        simp only at he
        omega
      · omega
  · by_cases hkl : k < G.length
    · rw [hfst k hkl hk]; exact h.og k hkl
    · obtain rfl : k = G.length := by omega
      rw [hlast hk]
      have := h.chg.size
      show w0.heap.size ≤ g
      omega
end IM
/-- A matrix as it is read. -/
def MatI (w : World) (cb n : Nat) (A : List (List Int)) : Prop := ∀ i, i < n → ∃ g c, w.cell? ⟨cb, i, none⟩ = some (.slice (some ⟨g, 0, none⟩) n c) ∧ ∀ j, j < n → w.cell? ⟨g, j, none⟩ = some (.int .i64 (ent A i j))
theorem MatI.chg {w w' : World} {cb n : Nat} {A : List (List Int)} (h : MatI w cb n A) (hc : Chg (fun _ => False) w w') : MatI w' cb n A := fun i hi => by
  obtain ⟨g, c, h1, h2⟩ := h i hi
  exact ⟨g, c, hc.cell_some h1 (fun x => x), fun j hj => hc.cell_some (h2 j hj) (fun x => x)⟩
theorem IM.mat {w0 w : World} {cb n N : Nat} {A : List (List Int)} {G : List (Nat × Nat)} (h : IM w0 w cb n N A G) (hn : n ≤ G.length) : MatI w cb n A := fun i hi => ⟨G[i].1, G[i].2, h.outer_at (by omega), fun j hj => h.ent_at (by omega) hj⟩

theorem info29 : (Tryd.prog.info? 29).map (fun i => (i.zero, i.size, i.bytes)) = some (some (.slice none 0 0), 1, 24) := by kernel_rfl
theorem make_mat (N : Nat) (hN : N ≤ 1000) (w : World) : (Instr.makeSlice 63 (.int .i64 N) (.int .i64 N)).run Tryd.prog w = .ok (.slice (some ⟨w.heap.size, 0, none⟩) N N) (w.alloc (.cells (Array.replicate N (.slice none 0 0)) 29)) := by
  obtain ⟨i0, hi0, hz0, hz1, hz2⟩ := info_parts info29
  have := run_make (P := Tryd.prog) w 63 29 i0 _ Tryd.underlying63 hi0 hz0 .i64 .i64 N N (by omega) (by omega) (by rw [hz2]; omega) (by omega)
  rw [this, hz1, Nat.mul_one, show (Value.slice none 0 0).cells = #[Value.slice none 0 0] from rfl, madeCells_one]
  rfl
theorem made_mat (n N : Nat) (w : World) : IM w (w.alloc (.cells (Array.replicate N (.slice none 0 0)) 29)) w.heap.size n N [] [] := by
  have := Blk.new w (Array.replicate N (.slice none 0 0)) 29
  exact ⟨rfl, Nat.zero_le _, by unfold outG; simpa [nilS] using this, fun k hk => by simp at hk, fun k hk => by simp at hk, fun j k hj => by simp at hj, (Chg.refl _ w).alloc _, Nat.le_refl _, fun k hk => by simp at hk⟩
end Go.Proofs.YtilacamhjibneaaDoor

/- The matrix of what grows, walked. Its conditions are its premises. -/
namespace Go.Proofs.YtilacamhjibneaaDoor
open Go.RowKit

def bump (A : List (List Int)) (c i : Nat) : List (List Int) := A.set c ((row A c).set i (wrap64 (ent A c i + 1)))
def grP (p : List Nat) (i : Nat) (A : List (List Int)) : Nat → List (List Int)
  | 0 => A
  | k + 1 => bump (grP p i A k) (at0 p k) i
def grF (V : List (List Nat)) : Nat → List (List Int)
  | 0 => List.replicate V.length (List.replicate V.length 0)
  | i + 1 => grP (part V i) i (grF V i) (part V i).length
def growsM (V : List (List Nat)) : List (List Int) := grF V V.length

/-- A row of zeros is made and put in. -/
theorem IM.made {w0 w : World} {cb n N : Nat} {A : List (List Int)} {G : List (Nat × Nat)} (h : IM w0 w cb n N A G) (hlt : G.length < N) :
    IM w0 ((w.alloc (.cells (Array.replicate n (.int .i64 0)) 3)).setCell ⟨cb, G.length, none⟩ (.slice (some ⟨w.heap.size, 0, none⟩) n n)) cb n N (A ++ [List.replicate n 0]) (G ++ [(w.heap.size, n)]) := by
  have hcb := h.outer.lt
  refine h.next hlt (((Chg.refl (fun k => k = cb) w).alloc _).setCell (a := ⟨cb, G.length, none⟩) (.inl rfl) _) ?_ ?_ (Nat.le_refl _)
  · have := (h.outer.alloc (.cells (Array.replicate n (.int .i64 0)) 3)).set G.length (gv n (w.heap.size, n))
    rw [outG_set _ hlt] at this
    exact this
  · have := (made_ints n w).setOther (a := ⟨cb, G.length, none⟩) (by show cb ≠ w.heap.size; omega) (.slice (some ⟨w.heap.size, 0, none⟩) n n)
    refine QueB.of_blk (e := 3) ?_ 1 (by simp [ivL])
    simpa [ivL, nv] using this

set_option maxRecDepth 100000 in
set_option maxHeartbeats 1000000 in
theorem grows_any (V : List (List Nat)) (hV : WF V) (b off cap : Nat) (w : World) (hv : VAt w b off V) :
    Calls Tryd.prog 52 #[.slice (some ⟨b, off, none⟩) V.length cap] w fun e w' => (∃ cb G, e = .returned (.slice (some ⟨cb, 0, none⟩) V.length V.length) ∧ IM w w' cb V.length V.length (growsM V) G ∧ G.length = V.length) ∧ Chg (fun _ => False) w w' := by
  have hn6 := hV.le
  have hmk := make_mat V.length (by omega)
  have hmi := make_ints V.length (by omega)
  have HV := Lib.hid hv; have HWF := Lib.hid hV
  have HM0 := Lib.hid (made_mat V.length V.length w)
  obtain ⟨cb, hcb⟩ : ∃ cb, w.heap.size = cb := ⟨_, rfl⟩
  rw [hcb] at HM0
  clear hv hV
  go_enter Tryd.func52, Tryd.ntmps52
  go_wp2_with fail
  clear hcb hmk
  generalize w.alloc (.cells (Array.replicate V.length (.slice none 0 0)) 29) = W0 at HM0 ⊢
  go_loopg [13] V.length (fun gm iv wr => ∃ (i : Nat) (G : List (Nat × Nat)), i ≤ V.length ∧ gm = V.length - i ∧ iv = .int .i64 i ∧ G.length = i ∧ IM w wr cb V.length V.length (List.replicate i (List.replicate V.length 0)) G)
  case atStart => exact ⟨0, [], by omega, by omega, rfl, rfl, HM0.out⟩
  case round =>
    clear HM0
    obtain ⟨i, G, hi, rfl, rfl, hG, hM⟩ := hrel
    have HG := Lib.hid hG; have HM := Lib.hid hM
    clear hG hM
    by_cases hlt : i < V.length
    · have d0 : decide (i < V.length) = true := by simpa using hlt
      obtain ⟨rb, hrb⟩ : ∃ rb, wr.heap.size = rb := ⟨_, rfl⟩
      have HN := Lib.hid (HM.out.made (by rw [HG.out]; exact hlt))
      rw [HG.out, hrb] at HN
      have c1 := (HM.out.outer.alloc (.cells (Array.replicate V.length (.int .i64 0)) 3)).cell_some (outG_next (by rw [HG.out]; exact hlt))
      rw [HG.out] at c1
      have f1 := (HM.out.outer.alloc (.cells (Array.replicate V.length (.int .i64 0)) 3)).free i
      have HRS := Lib.hid (show List.replicate (i + 1) (List.replicate V.length (0 : Int)) = List.replicate i (List.replicate V.length 0) ++ [List.replicate V.length 0] from List.replicate_succ')
      go_wp2_with fail
      go_roundg (V.length - (i + 1))
      case measure => omega
      case rel => exact ⟨i + 1, G ++ [(rb, V.length)], by omega, rfl, by go_num, by rw [List.length_append, HG.out]; rfl, by rw [HRS.out]; exact HN.out⟩
    · obtain rfl : i = V.length := by omega
      have HM1 : Hid (IM w wr cb V.length V.length (grF V 0) G) := Lib.hid HM.out
      have HGL : Hid (G.length = V.length) := Lib.hid HG.out
      clear HM HG hmi
      go_wp2_with fail
      go_loopg [25] V.length (fun gm iv wr => ∃ i : Nat, i ≤ V.length ∧ gm = V.length - i ∧ iv = .int .i64 i ∧ IM w wr cb V.length V.length (grF V i) G)
      case atStart => exact ⟨0, by omega, by omega, rfl, HM1.out⟩
      case round =>
        clear HM1
        obtain ⟨i, hi, rfl, rfl, hM⟩ := hrel
        have HM := Lib.hid hM
        clear hM
        by_cases hlt : i < V.length
        · have d0 : decide (i < V.length) = true := by simpa using hlt
          have c0 := (HV.out.chg HM.out.chg (fun x => x)) i hlt
          rw [← part_lt hlt] at c0
          have hp8 := (HWF.out.part_le i).1
          have HP := Lib.hid (HWF.out.part_le i).2
          have HS := Lib.hid (show grF V (i + 1) = grP (part V i) i (grF V i) (part V i).length from rfl)
          obtain ⟨p, hp⟩ : ∃ p, part V i = p := ⟨_, rfl⟩
          obtain ⟨A, hA⟩ : ∃ A, grF V i = A := ⟨_, rfl⟩
          rw [hp] at c0 hp8 HP HS
          rw [hA] at HS HM
          clear hp hA
          have hsz := str_size p
          go_wp2_with fail
          clear c0
          go_loopg [32] p.length (fun gm kv wr => ∃ k : Nat, k ≤ p.length ∧ gm = p.length - k ∧ kv = .int .i64 k ∧ IM w wr cb V.length V.length (grP p i A k) G)
          case atStart => exact ⟨0, by omega, by omega, rfl, HM.out⟩
          case round =>
            clear HM
            obtain ⟨k, hk, rfl, rfl, hM⟩ := hrel
            have HM := Lib.hid hM
            clear hM
            by_cases hkl : k < p.length
            · have d3 : decide (k < p.length) = true := by simpa using hkl
              have hcn := HP.out _ (List.getElem_mem hkl)
              have hidx := index_chr hkl (by omega)
              have hu8 := u8_chr p[k] (by omega)
              have HSK : Hid (grP p i A (k + 1) = bump (grP p i A k) p[k] i) := Lib.hid (by rw [grP, at0_lt_of hkl])
              obtain ⟨c, hc⟩ : ∃ c, p[k] = c := ⟨_, rfl⟩
              rw [hc] at hcn hu8 HSK
              simp only [hc] at hidx
              obtain ⟨C, hC⟩ : ∃ C, 97 + c = C := ⟨_, rfl⟩
              rw [hC] at hu8
              simp only [hC] at hidx
              clear hc hC
              have hcG : c < G.length := by rw [HGL.out]; exact hcn
              have m1 := HM.out.outer_at hcG
              have m2 := HM.out.ent_at hcG hlt
              have m3 := HM.out.free hcG i
              have HMS := Lib.hid (HM.out.set hcG hlt (wrap64 (ent (grP p i A k) c i + 1)))
              obtain ⟨g, hg⟩ : ∃ g, G[c].1 = g := ⟨_, rfl⟩
              obtain ⟨gc, hgc⟩ : ∃ gc, G[c].2 = gc := ⟨_, rfl⟩
              rw [hg] at m1 m2 m3 HMS
              rw [hgc] at m1
              clear hg hgc hcG
              have hci : (c : Int) < (V.length : Int) := by omega
              obtain ⟨x, hx⟩ : ∃ x, ent (grP p i A k) c i = x := ⟨_, rfl⟩
              have HX := Lib.hid hx
              rw [hx] at m2 HMS
              clear hx
              go_wp2_with fail
              go_roundg (p.length - (k + 1))
              case measure => omega
              case rel => exact ⟨k + 1, by omega, rfl, by go_num, by rw [HSK.out]; unfold bump; rw [HX.out]; exact HMS.out⟩
            · obtain rfl : k = p.length := by omega
              go_wp2_with fail
              go_roundg (V.length - (i + 1))
              case measure => omega
              case rel => exact ⟨i + 1, by omega, rfl, by go_num, by rw [HS.out]; exact HM.out⟩
        · obtain rfl : i = V.length := by omega
          go_wp2_with fail
          go_ret
          exact ⟨⟨cb, G, rfl, HM.out, HGL.out⟩, HM.out.chg⟩
end Go.Proofs.YtilacamhjibneaaDoor

/- The product of two matrices, walked. Its conditions are its premises. -/
namespace Go.Proofs.YtilacamhjibneaaDoor
open Go.RowKit

theorem plusI_any (x y : Int) (w : World) : Calls Tryd.prog 53 #[.int .i64 x, .int .i64 y] w fun e w' => e = .returned (.int .i64 (wrap64 (x + y))) ∧ w' = w := by
  go_enter Tryd.func53, Tryd.ntmps53
  go_wp2_with fail
  go_ret
  exact ⟨rfl, rfl⟩
theorem timesI_any (x y : Int) (w : World) : Calls Tryd.prog 54 #[.int .i64 x, .int .i64 y] w fun e w' => e = .returned (.int .i64 (wrap64 (x * y))) ∧ w' = w := by
  go_enter Tryd.func54, Tryd.ntmps54
  go_wp2_with fail
  go_ret
  exact ⟨rfl, rfl⟩

def prE (A B : List (List Int)) (i j : Nat) : Nat → Int
  | 0 => wrap64 (ent A i 0 * ent B 0 j)
  | k + 1 => wrap64 (prE A B i j k + wrap64 (ent A i (k + 1) * ent B (k + 1) j))
def prR (A B : List (List Int)) (n i : Nat) (m : Nat) : List Int := (List.range m).map fun j => prE A B i j (n - 1)
def prM (A B : List (List Int)) (n m : Nat) : List (List Int) := (List.range m).map fun i => prR A B n i n
theorem prR_len (A B : List (List Int)) (n i m : Nat) : (prR A B n i m).length = m := by simp [prR]
theorem prR_next (A B : List (List Int)) (n i m : Nat) : prR A B n i (m + 1) = prR A B n i m ++ [prE A B i m (n - 1)] := by simp [prR, List.range_succ]
theorem prM_next (A B : List (List Int)) (n m : Nat) : prM A B n (m + 1) = prM A B n m ++ [prR A B n m n] := by simp [prM, List.range_succ]

/-- The row that is being made. -/
structure PR (w0 w : World) (cb n : Nat) (G : List (Nat × Nat)) (v : Value) (l : List Int) : Prop where
  outer : Blk w cb 29 ((outG n n G).set G.length v)
  own : w.ownsRow w0.heap.size 3 1 v l.length (ivL l)
  chg : Chg (fun k => k = cb) w0 w
theorem PR.kept {w0 w w' : World} {cb n : Nat} {G : List (Nat × Nat)} {v : Value} {l : List Int} (h : PR w0 w cb n G v l) (hc : Chg (fun _ => False) w w') : PR w0 w' cb n G v l :=
  ⟨hc.blk h.outer (fun x => x), owns_chg h.own hc, h.chg.trans hc (fun _ x => x.elim)⟩
theorem PR.at_ {w0 w : World} {cb n : Nat} {G : List (Nat × Nat)} {v : Value} {l : List Int} (h : PR w0 w cb n G v l) (hn : G.length < n) : w.cell? ⟨cb, G.length, none⟩ = some v := by
  refine h.outer.cell_some ?_
  rw [List.getElem?_set_self]
  unfold outG
  simp
  omega
theorem PR.push {w0 w w2 : World} {cb n : Nat} {G : List (Nat × Nat)} {v v' : Value} {l : List Int} {x : Int} (h : PR w0 w cb n G v l) (hcb : cb < w0.heap.size) (ho : w2.ownsRow w0.heap.size 3 1 v' (l.length + 1) (ivL l ++ [.int .i64 x])) (hg : w.grownBy w2 v.ownBlock) : PR w0 (w2.setCell ⟨cb, G.length, none⟩ v') cb n G v' (l ++ [x]) := by
  have hne : ∀ k, v.ownBlock = some k → w0.heap.size ≤ k := fun k hk => (h.own.lt _ hk).1
  have hc := Chg.of_grownRow hg
  have hc2 : Chg (fun k => k = cb) w0 w2 := h.chg.trans hc (fun k hk => .inr (hne k hk.symm))
  have hb := (hc.blk h.outer (fun e => by have := hne cb e.symm; omega)).set G.length v'
  rw [List.set_set] at hb
  refine ⟨hb, ?_, hc2.setCell (a := ⟨cb, G.length, none⟩) (.inl rfl) _⟩
  have hs : ivL (l ++ [x]) = ivL l ++ [.int .i64 x] := by simp [ivL]
  rw [hs, List.length_append, List.length_singleton]
  rcases ho with ⟨hl, h | ⟨g, c, cur, hv, hb, hg, hle, hcs, hsz, htk⟩⟩
  · exact ⟨hl, .inl h⟩
  · exact ⟨hl, .inr ⟨g, c, cur, hv, hb, by rw [RowKit.Below.heap_setCell _ _ _ _ (by show g ≠ cb; omega)]; exact hg, hle, hcs, hsz, htk⟩⟩
theorem PR.after {w0 w w2 : World} {cb n : Nat} {G : List (Nat × Nat)} {v : Value} {l : List Int} (h : PR w0 w cb n G v l) (hn : G.length < n) (hcb : cb < w0.heap.size) (hg : w.grownBy w2 v.ownBlock) : w2.cell? ⟨cb, G.length, none⟩ = some v ∧ ∀ j, w2.frozen? ⟨cb, j, none⟩ = false := by
  have hne : ∀ k, v.ownBlock = some k → w0.heap.size ≤ k := fun k hk => (h.own.lt _ hk).1
  have hc := Chg.of_grownRow hg
  have hs : ¬ some cb = v.ownBlock := fun e => by have := hne cb e.symm; omega
  exact ⟨hc.cell_some (h.at_ hn) hs, fun j => (hc.blk h.outer hs).free j⟩
theorem PR.done {w00 w0 w : World} {cb n : Nat} {A : List (List Int)} {G : List (Nat × Nat)} {v : Value} {l : List Int} (h : PR w0 w cb n G v l) (hM : IM w00 w0 cb n n A G) (hlt : G.length < n) (hl : l.length = n) : ∃ g c, IM w00 w cb n n (A ++ [l]) (G ++ [(g, c)]) := by
  have ho := h.own
  rw [hl] at ho
  obtain ⟨g, c, rfl, hg, hq⟩ := QueB.of_owns ho (by omega)
  refine ⟨g, c, hM.next hlt h.chg ?_ hq hg⟩
  have := h.outer
  rw [show (Value.slice (some ⟨g, 0, none⟩) n c) = gv n (g, c) from rfl, outG_set _ hlt] at this
  exact this
theorem PR.form {w0 w : World} {cb n : Nat} {G : List (Nat × Nat)} {v : Value} {l : List Int} (h : PR w0 w cb n G v l) : ∃ ao c, v = .slice ao l.length c := by
  obtain ⟨ao, c, hv, _⟩ := owns_form h.own
  exact ⟨ao, c, hv⟩

set_option maxRecDepth 100000 in
set_option maxHeartbeats 1000000 in
theorem product_any (A B : List (List Int)) (n : Nat) (hn1 : 1 ≤ n) (hn6 : n ≤ 6) (ab acap bb bcap : Nat) (w : World) (ha : MatI w ab n A) (hb : MatI w bb n B) :
    Calls Tryd.prog 55 #[.slice (some ⟨ab, 0, none⟩) n acap, .slice (some ⟨bb, 0, none⟩) n bcap, .func (.func 53) #[] #[], .func (.func 54) #[] #[]] w fun e w' => (∃ cb G, e = .returned (.slice (some ⟨cb, 0, none⟩) n n) ∧ IM w w' cb n n (prM A B n n) G ∧ G.length = n) ∧ Chg (fun _ => False) w w' := by
  have hmk := make_mat n (by omega)
  have HI3 : Hid (∃ i0, Tryd.prog.info? 3 = some i0 ∧ i0.zero = some (.int .i64 0) ∧ i0.size = 1 ∧ i0.bytes = 8) := Lib.hid (by
    obtain ⟨i0, h0, h1, h2, h3⟩ := info_parts info3
    exact ⟨i0, h0, h1, h2, h3⟩)
  have HA := Lib.hid ha; have HB := Lib.hid hb
  have HP := Lib.hid plusI_any; have HT := Lib.hid timesI_any
  have HM0 := Lib.hid (made_mat n n w)
  obtain ⟨cb, hcb⟩ : ∃ cb, w.heap.size = cb := ⟨_, rfl⟩
  rw [hcb] at HM0
  have HCB := Lib.hid hcb
  clear ha hb
  go_enter Tryd.func55, Tryd.ntmps55
  go_wp2_with fail
  clear hcb hmk
  generalize w.alloc (.cells (Array.replicate n (.slice none 0 0)) 29) = W0 at HM0 ⊢
  go_loopg [20] n (fun gm iv wr => ∃ (i : Nat) (G : List (Nat × Nat)), i ≤ n ∧ gm = n - i ∧ iv = .int .i64 i ∧ G.length = i ∧ IM w wr cb n n (prM A B n i) G)
  case atStart => exact ⟨0, [], by omega, by omega, rfl, rfl, HM0.out⟩
  case round =>
    clear HM0
    obtain ⟨i, G, hi, rfl, rfl, hG, hM⟩ := hrel
    have HG := Lib.hid hG; have HM := Lib.hid hM
    clear hG hM
    by_cases hlt : i < n
    · have d0 : decide (i < n) = true := by simpa using hlt
      obtain ⟨ga, ca, a0, a2⟩ := HA.out i hlt
      have a1 := HM.out.chg.cell_some a0 (fun x => x)
      have HA2 := Lib.hid a2
      clear a2 a0
      have HPR0 : Hid (PR wr wr cb n G nilS []) := Lib.hid ⟨by
        have h := HM.out.outer
        have h2 : (outG n n G).set G.length nilS = outG n n G := by
          have hx := outG_next (n := n) (N := n) (G := G) (by rw [HG.out]; exact hlt)
          apply List.ext_getElem?
          intro j
          rw [List.getElem?_set]
          by_cases hj : G.length = j
          · subst hj
            rw [if_pos rfl, if_pos (by rw [List.getElem?_eq_some_iff] at hx; exact hx.1), hx]
          · rw [if_neg hj]
        rw [h2]; exact h, World.ownsRow_nil wr _ 3 1, Chg.refl _ _⟩
      go_wp2_with fail
      clear a1
      obtain ⟨wo, hwo⟩ : ∃ wo : World, wo = wr := ⟨_, rfl⟩
      rw [← hwo] at HM HPR0 ⊢
      clear hwo
      go_loopg [27] n (fun gm jv wr => ∃ (j : Nat) (v : Value), j ≤ n ∧ gm = n - j ∧ jv = .int .i64 j ∧ PR wo wr cb n G v (prR A B n i j))
      case atStart => exact ⟨0, nilS, by omega, by omega, rfl, HPR0.out⟩
      case round =>
        clear HPR0
        obtain ⟨j, v, hj, rfl, rfl, hpr⟩ := hrel
        have HPR := Lib.hid hpr
        clear hpr
        by_cases hjl : j < n
        · have d1 : decide (j < n) = true := by simpa using hjl
          have HWC : Hid (Chg (fun _ => False) w wr) := Lib.hid (HM.out.chg.trans HPR.out.chg (fun k hk => .inr (by rw [hk]; exact HM.out.ocb)))
          have HAW : Hid (∀ k, k < n → wr.cell? ⟨ga, k, none⟩ = some (.int .i64 (ent A i k))) := Lib.hid (fun k hk => HWC.out.cell_some (HA2.out k hk) (fun x => x))
          have HBW := Lib.hid (HB.out.chg HWC.out)
          have e1 := HAW.out 0 (by omega)
          obtain ⟨gb, cb0, b1, b2⟩ := HBW.out 0 (by omega)
          have b3 := b2 j hjl
          clear b2
          have hn0 : (0 : Int) < (n : Int) := by omega
          go_wp2_with fail
          go_quiet ((refine Calls.quiet_of_same (HT.out _ _ _)))
          clear e1 b1 b3
          go_wp2_with fail
          obtain ⟨wj, hwj⟩ : ∃ wj : World, wj = wr := ⟨_, rfl⟩
          rw [← hwj] at HPR HWC HAW HBW ⊢
          clear hwj
          go_loopg [14, 13] (n - 1) (fun gm kv xv wr => ∃ k q : Nat, k + 1 ≤ n ∧ gm = n - (k + 1) ∧ kv = .int .i64 ((k + 1 : Nat) : Int) ∧ xv = .int .i64 (prE A B i j k) ∧ wr = wj.drewN q)
          case atStart => exact ⟨0, nq, by omega, by omega, rfl, rfl, rfl⟩
          case round =>
            obtain ⟨k, q, hk, rfl, rfl, rfl, rfl⟩ := hrel
            obtain ⟨K, hK⟩ : ∃ K, k + 1 = K := ⟨_, rfl⟩
            rw [hK] at hk ⊢
            have HKK := Lib.hid hK
            clear hK
            by_cases hkn : K < n
            · have d2 : decide (K < n) = true := by simpa using hkn
              have e1 := HAW.out K hkn
              obtain ⟨gb2, cb2, b1, b2⟩ := HBW.out K hkn
              have b3 := b2 j hjl
              clear b2
              have HXS := Lib.hid (show prE A B i j (k + 1) = wrap64 (prE A B i j k + wrap64 (ent A i (k + 1) * ent B (k + 1) j)) from rfl)
              rw [HKK.out] at HXS
              obtain ⟨x, hx⟩ : ∃ x, prE A B i j k = x := ⟨_, rfl⟩
              rw [hx] at HXS ⊢
              clear hx
              go_wp2_with fail
              go_quiet ((first | (refine (HT.out _ _ _).mono ?_; rintro e w' ⟨rfl, rfl⟩; exact ⟨rfl, _, rfl⟩) | (refine (HP.out _ _ _).mono ?_; rintro e w' ⟨rfl, rfl⟩; exact ⟨rfl, _, rfl⟩)))
              go_wp2_with fail
              go_roundg (n - (K + 1))
              case measure => have := HKK.out; omega
              case rel => exact ⟨k + 1, q + nq, by have := HKK.out; omega, by have := HKK.out; omega, by have := HKK.out; go_num, by rw [HKK.out, HXS.out], by simp⟩
            · have HKN := Lib.hid (show k = n - 1 by have := HKK.out; omega)
              have d2 : decide (K < n) = false := by simpa using hkn
              rw [HKN.out]
              obtain ⟨x, hx⟩ : ∃ x, prE A B i j (n - 1) = x := ⟨_, rfl⟩
              have HX := Lib.hid hx
              rw [hx]
              clear hx
              go_upto_region 13 with (fail)
              have HPQ := Lib.hid (HPR.out.kept ((Chg.refl (fun _ => False) wj).drewN q))
              generalize wj.drewN q = W3 at HPQ ⊢
              have c1 := HPQ.out.at_ (by rw [HG.out]; exact hlt)
              rw [HG.out] at c1
              have hcbo : cb < wo.heap.size := HM.out.outer.lt
              have HCO := Lib.hid hcbo
              have HX3 := Lib.hid (Blk.new W3 #[.int .i64 x] 3)
              have HBS := Lib.hid (show wo.heap.size ≤ (W3.alloc (.cells #[.int .i64 x] 3)).heap.size from Nat.le_trans HPQ.out.chg.size (by show W3.heap.size ≤ (W3.heap.push _).size; simp))
              have HPA := Lib.hid (HPQ.out.kept ((Chg.refl (fun _ => False) W3).alloc (.cells #[.int .i64 x] 3)))
              have HLJ := Lib.hid (prR_len A B n i j)
              obtain ⟨g3, hg3⟩ : ∃ g3, W3.heap.size = g3 := ⟨_, rfl⟩
              rw [hg3] at HX3
              clear hcbo
              go_wp2_with (at_builtin; refine wpList_append_own _ rfl (.tmp 68) (.tmp 70) 29 rfl wo.heap.size 3 HI3.out.choose _ 1 8 Tryd.underlying29 HI3.out.choose_spec.1 HI3.out.choose_spec.2.1 HI3.out.choose_spec.2.2.1 HI3.out.choose_spec.2.2.2 rfl (by decide) v _ _ (by simp [Act.eval]) HPA.out.own ⟨g3, 0, none⟩ 1 1 [.int .i64 x] (by simp [Act.eval]) rfl (fun j v hj => by rw [add_plain, Nat.zero_add]; exact HX3.out.cell_some hj) (by intro v hv; simp at hv; subst hv; rfl) ?l1 ?l2 HBS.out ?_)
              case l1 => rw [HLJ.out]; unfold maxLen; omega
              case l2 => rw [HLJ.out]; omega
              intro v' w2 hown' hgrow _
              have hpush := HPA.out.push HCO.out hown' hgrow
              have haft := HPA.out.after (by rw [HG.out]; exact hlt) HCO.out hgrow
              rw [HG.out] at hpush haft
              rw [HLJ.out] at hown'
              obtain ⟨g', c', rfl, _, _⟩ := QueB.of_owns hown' (by omega)
              have HPU := Lib.hid hpush
              have c2 := haft.1
              have f2 := haft.2 i
              clear hpush haft hown' hgrow c1 hg3
              go_wp2_with fail
              go_roundg (n - (j + 1))
              case measure => omega
              case rel => exact ⟨j + 1, _, by omega, rfl, by go_num, by rw [prR_next, HX.out]; exact HPU.out⟩
        · obtain rfl : j = n := by omega
          have HMN := Lib.hid (HPR.out.done HM.out (by rw [HG.out]; exact hlt) (prR_len A B j i j))
          have HPN := Lib.hid (prM_next A B j i)
          go_wp2_with fail
          obtain ⟨g, c, hnext⟩ := HMN.out
          go_roundg (j - (i + 1))
          case measure => omega
          case rel => exact ⟨i + 1, G ++ [(g, c)], by omega, rfl, by go_num, by rw [List.length_append, HG.out]; rfl, by rw [HPN.out]; exact hnext⟩
    · obtain rfl : i = n := by omega
      go_wp2_with fail
      go_ret
      exact ⟨⟨cb, G, rfl, HM.out, HG.out⟩, HM.out.chg⟩
end Go.Proofs.YtilacamhjibneaaDoor

/- Recurrence, walked. Its conditions are its premises. -/
namespace Go.Proofs.YtilacamhjibneaaDoor
open Go.RowKit

def idR (n i : Nat) : List Int := (List.replicate n 0).set i 1
def idM (n m : Nat) : List (List Int) := (List.range m).map (idR n)
theorem idM_next (n m : Nat) : idM n (m + 1) = idM n m ++ [idR n m] := by simp [idM, List.range_succ]
def trF (B : List (List Int)) : Nat → Int
  | 0 => 0
  | i + 1 => wrap64 (trF B i + ent B i i)
def subF (B : List (List Int)) (c : Int) : Nat → List (List Int)
  | 0 => B
  | i + 1 => (subF B c i).set i ((row (subF B c i) i).set i (wrap64 (ent (subF B c i) i i - c)))
/-- The matrix and the coefficients after k rounds. -/
def recF (n : Nat) (M : List (List Int)) : Nat → List (List Int) × List Int
  | 0 => (idM n n, [])
  | k + 1 =>
    let B := prM M (recF n M k).1 n n
    let c := wrap64 ((trF B n).tdiv ((k + 1 : Nat) : Int))
    (subF B c n, (recF n M k).2 ++ [c])
def recV (V : List (List Nat)) : List Int := (recF V.length (growsM V) V.length).2

theorem owns_chgS {S : Nat → Prop} {w w' : World} {base : Nat} {e : TypeId} {size n : Nat} {v : Value} {xs : List Value} (h : w.ownsRow base e size v n xs) (hc : Chg S w w') (hS : ∀ k, v.ownBlock = some k → ¬ S k) : w'.ownsRow base e size v n xs := by
  rcases h with ⟨hl, h | ⟨g, c, cur, hv, hb, hg, hle, hcs, hsz, htk⟩⟩
  · exact ⟨hl, .inl h⟩
  · exact ⟨hl, .inr ⟨g, c, cur, hv, hb, (hc.block g (Array.getElem?_eq_some_iff.1 hg).1 (hS g (by subst hv; rfl))).trans hg, hle, hcs, hsz, htk⟩⟩

/-- A matrix of which no block lies under the base. -/
structure IMB (base : Nat) (w : World) (cb n N : Nat) (A : List (List Int)) (G : List (Nat × Nat)) : Prop where
  len : A.length = G.length
  outer : Blk w cb 29 (outG n N G)
  rows : ∀ k (h : k < G.length), QueB w 1 G[k].1 0 G[k].2 n (ivL (row A k))
  ne : ∀ k (h : k < G.length), G[k].1 ≠ cb
  inj : ∀ j k (hj : j < G.length) (hk : k < G.length), G[j].1 = G[k].1 → j = k
  ocb : base ≤ cb
  og : ∀ k (h : k < G.length), base ≤ G[k].1
namespace IMB
variable {base : Nat} {w w' : World} {cb n N : Nat} {A : List (List Int)} {G : List (Nat × Nat)}
theorem of_im {w0 : World} (h : IM w0 w cb n N A G) : IMB w0.heap.size w cb n N A G := ⟨h.len, h.outer, h.rows, h.ne, h.inj, h.ocb, h.og⟩
theorem kept {S : Nat → Prop} (h : IMB base w cb n N A G) (hc : Chg S w w') (hS : ∀ k, base ≤ k → k < w.heap.size → ¬ S k) : IMB base w' cb n N A G :=
  ⟨h.len, hc.blk h.outer (hS _ h.ocb h.outer.lt), fun k hk => (h.rows k hk).chg hc (hS _ (h.og k hk) (h.rows k hk).lt), h.ne, h.inj, h.ocb, h.og⟩
theorem row_len (h : IMB base w cb n N A G) {k : Nat} (hk : k < G.length) : (row A k).length = n := by
  have := (h.rows k hk).len
  rw [ivL_len] at this
  omega
theorem outer_at (h : IMB base w cb n N A G) {k : Nat} (hk : k < G.length) : w.cell? ⟨cb, k, none⟩ = some (.slice (some ⟨G[k].1, 0, none⟩) n G[k].2) := h.outer.cell_some (outG_at hk)
theorem ent_at (h : IMB base w cb n N A G) {k j : Nat} (hk : k < G.length) (hj : j < n) : w.cell? ⟨G[k].1, j, none⟩ = some (.int .i64 (ent A k j)) := by
  have hl := h.row_len hk
  have := (h.rows k hk).at_ j (.int .i64 (ent A k j)) (by
    unfold ivL ent
    rw [List.getElem?_map, List.getElem?_eq_getElem (by omega)]
    rfl)
  rwa [Nat.zero_add] at this
theorem free (h : IMB base w cb n N A G) {k : Nat} (hk : k < G.length) (j : Nat) : w.frozen? ⟨G[k].1, j, none⟩ = false := (h.rows k hk).free j
theorem set (h : IMB base w cb n N A G) {k j : Nat} (hk : k < G.length) (hj : j < n) (x : Int) : IMB base (w.setCell ⟨G[k].1, j, none⟩ (.int .i64 x)) cb n N (A.set k ((row A k).set j x)) G := by
  refine ⟨by rw [List.length_set]; exact h.len, h.outer.setOther (h.ne k hk) _, fun i hi => ?_, h.ne, h.inj, h.ocb, h.og⟩
  by_cases hik : k = i
  · subst hik
    have hr : row (A.set k ((row A k).set j x)) k = (row A k).set j x := by
      unfold row
      rw [List.getElem?_set_self (by rw [h.len]; exact hk)]
      rfl
    rw [hr, ivL_set]
    have := (h.rows k hk).set1 hj (.int .i64 x)
    rwa [Nat.zero_add] at this
  · have hr : row (A.set k ((row A k).set j x)) i = row A i := by
      unfold row
      rw [List.getElem?_set_ne hik]
    rw [hr]
    exact (h.rows i hi).chg ((Chg.refl (fun b => b = G[k].1) w).setCell (a := ⟨G[k].1, j, none⟩) (.inl rfl) _) (fun e => hik (h.inj i k hi hk e).symm)
theorem mat (h : IMB base w cb n N A G) (hn : n ≤ G.length) : MatI w cb n A := fun i hi => ⟨G[i].1, G[i].2, h.outer_at (by omega), fun j hj => h.ent_at (by omega) hj⟩
end IMB
theorem IM.made1 {w0 w : World} {cb n : Nat} {A : List (List Int)} {G : List (Nat × Nat)} (h : IM w0 w cb n n A G) (hlt : G.length < n) :
    IM w0 (((w.alloc (.cells (Array.replicate n (.int .i64 0)) 3)).setCell ⟨cb, G.length, none⟩ (.slice (some ⟨w.heap.size, 0, none⟩) n n)).setCell ⟨w.heap.size, G.length, none⟩ (.int .i64 1)) cb n n (A ++ [idR n G.length]) (G ++ [(w.heap.size, n)]) := by
  have h1 := h.made hlt
  have h2 := h1.set (k := G.length) (j := G.length) (by simp) hlt 1
  have e1 : (G ++ [(w.heap.size, n)])[G.length]'(by simp) = (w.heap.size, n) := by simp
  rw [e1] at h2
  have e2 : row (A ++ [List.replicate n 0]) G.length = List.replicate n 0 := by unfold row; rw [← h.len]; simp
  have e3 : (A ++ [List.replicate n (0 : Int)]).set G.length ((List.replicate n 0).set G.length 1) = A ++ [idR n G.length] := by
    rw [← h.len, List.set_append_right _ _ (Nat.le_refl _), Nat.sub_self]
    rfl
  rw [e2, e3] at h2
  exact h2

set_option maxRecDepth 100000 in
set_option maxHeartbeats 1000000 in
theorem recurrence_ok (V : List (List Nat)) (hV : WF V) (t : List Nat) (ht : ∀ c ∈ t, c < V.length) (hl : t.length ≤ 30) (b off cap : Nat) (w : World) (hv : VAt w b off V) :
    Calls Tryd.prog 19 #[.slice (some ⟨b, off, none⟩) V.length cap, .string (str t)] w fun e w' => (∃ g c, e = .returned (.tuple #[.slice (some ⟨g, 0, none⟩) V.length c, .int .i64 0]) ∧ IntsAt w' g 0 (recV V) ∧ (recV V).length = V.length) ∧ Chg (fun _ => False) w w' := by
  have hn6 := hV.le
  have hn1 := hV.pos
  have hmk := make_mat V.length (by omega)
  have hmi := make_ints V.length (by omega)
  have HI3 : Hid (∃ i0, Tryd.prog.info? 3 = some i0 ∧ i0.zero = some (.int .i64 0) ∧ i0.size = 1 ∧ i0.bytes = 8) := Lib.hid (by
    obtain ⟨i0, h0, h1, h2, h3⟩ := info_parts info3
    exact ⟨i0, h0, h1, h2, h3⟩)
  have HS := Lib.hid (shot_ok V hV t ht hl b off cap w hv)
  have HGR := Lib.hid (grows_any V hV b off cap w hv)
  have HRV := Lib.hid (show recV V = (recF V.length (growsM V) V.length).2 from rfl)
  obtain ⟨n, hn⟩ : ∃ n, V.length = n := ⟨_, rfl⟩
  rw [hn] at hn6 hn1 hmk hmi HS HGR HRV ⊢
  clear hv hV ht hl hn
  go_enter Tryd.func19, Tryd.ntmps19
  go_wp2_with fail
  refine HS.out.mono ?_
  rintro e w1 ⟨rfl, rfl⟩
  go_wp2_with fail
  refine HGR.out.mono ?_
  rintro e wM ⟨⟨mb, GM, rfl, hm, hgm⟩, hcM⟩
  have HM := Lib.hid (hm.mat (Nat.le_of_eq hgm.symm)); have HCM := Lib.hid hcM
  clear hm hgm hcM HS HGR
  have HB0 := Lib.hid (made_mat n n wM)
  obtain ⟨cb, hcb⟩ : ∃ cb, wM.heap.size = cb := ⟨_, rfl⟩
  have HCB := Lib.hid hcb
  rw [hcb] at HB0
  go_wp2_with fail
  clear hcb hmk
  generalize wM.alloc (.cells (Array.replicate n (.slice none 0 0)) 29) = W0 at HB0 ⊢
  go_loopg [37] n (fun gm iv wr => ∃ (i : Nat) (G : List (Nat × Nat)), i ≤ n ∧ gm = n - i ∧ iv = .int .i64 i ∧ G.length = i ∧ IM wM wr cb n n (idM n i) G)
  case atStart => exact ⟨0, [], by omega, by omega, rfl, rfl, HB0.out⟩
  case round =>
    clear HB0
    obtain ⟨i, G, hi, rfl, rfl, hG, hB⟩ := hrel
    have HG := Lib.hid hG; have HB := Lib.hid hB
    clear hG hB
    by_cases hlt : i < n
    · have d0 : decide (i < n) = true := by simpa using hlt
      obtain ⟨rb, hrb⟩ : ∃ rb, wr.heap.size = rb := ⟨_, rfl⟩
      have HN := Lib.hid (HB.out.made1 (by rw [HG.out]; exact hlt))
      rw [HG.out, hrb] at HN
      have c1 := (HB.out.outer.alloc (.cells (Array.replicate n (.int .i64 0)) 3)).cell_some (outG_next (by rw [HG.out]; exact hlt))
      rw [HG.out] at c1
      have f1 := (HB.out.outer.alloc (.cells (Array.replicate n (.int .i64 0)) 3)).free i
      have b1 := made_ints n wr
      rw [hrb] at b1
      have c2 := b1.cell_some (nv_at (i := i) (by simpa using hlt))
      have f2 := b1.free i
      have hne : cb ≠ rb := by have := HB.out.outer.lt; omega
      have HNX := Lib.hid (idM_next n i)
      clear b1
      go_wp2_with fail
      go_roundg (n - (i + 1))
      case measure => omega
      case rel => exact ⟨i + 1, G ++ [(rb, n)], by omega, rfl, by go_num, by rw [List.length_append, HG.out]; rfl, by rw [HNX.out]; exact HN.out⟩
    · obtain rfl : i = n := by omega
      have HB1 : Hid (MatI wr cb i (recF i (growsM V) 0).1) := Lib.hid (HB.out.mat (Nat.le_of_eq HG.out.symm))
      have HO1 : Hid (wr.ownsRow wM.heap.size 3 1 nilS 0 (ivL (recF i (growsM V) 0).2)) := Lib.hid (World.ownsRow_nil wr _ 3 1)
      have HC1 := Lib.hid HB.out.chg
      obtain ⟨M, hMM⟩ : ∃ M, growsM V = M := ⟨_, rfl⟩
      rw [hMM] at HB1 HO1 HM HRV
      clear HB HG hmi hMM
      go_wp2_with fail
      go_loopg [15, 13, 12] i (fun gm kv bvv ov wr => ∃ (k cb : Nat), k ≤ i ∧ gm = i - k ∧ kv = .int .i64 ((k + 1 : Nat) : Int) ∧ bvv = .slice (some ⟨cb, 0, none⟩) i i ∧ MatI wr cb i (recF i M k).1 ∧ wr.ownsRow wM.heap.size 3 1 ov k (ivL (recF i M k).2) ∧ Chg (fun _ => False) wM wr)
      case atStart => exact ⟨0, cb, by omega, by omega, rfl, rfl, HB1.out, HO1.out, HC1.out⟩
      case round =>
        clear HB1 HO1 HC1
        obtain ⟨k, cb, hk, rfl, rfl, rfl, hb, ho, hc⟩ := hrel
        have HB := Lib.hid hb; have HO := Lib.hid ho; have HC := Lib.hid hc
        clear hb ho hc
        generalize u12 = ov at HO ⊢
        have HPRD := Lib.hid (product_any M (recF i M k).1 i hn1 hn6 mb i cb i wr (HM.out.chg HC.out) HB.out)
        have HNX1 := Lib.hid (show (recF i M (k + 1)).1 = subF (prM M (recF i M k).1 i i) (wrap64 ((trF (prM M (recF i M k).1 i i) i).tdiv ((k + 1 : Nat) : Int))) i from rfl)
        have HNX2 := Lib.hid (show (recF i M (k + 1)).2 = (recF i M k).2 ++ [wrap64 ((trF (prM M (recF i M k).1 i i) i).tdiv ((k + 1 : Nat) : Int))] from rfl)
        obtain ⟨B1, hB1⟩ : ∃ B1, prM M (recF i M k).1 i i = B1 := ⟨_, rfl⟩
        rw [hB1] at HPRD HNX1 HNX2
        clear hB1
        obtain ⟨K, hK⟩ : ∃ K, k + 1 = K := ⟨_, rfl⟩
        have HKK := Lib.hid hK
        have hK7 : K ≤ 7 := by omega
        have hK0 : 0 < K := by omega
        rw [hK] at HNX1 HNX2 ⊢
        by_cases hkn : K ≤ i
        · have d1 : decide ((K : Int) ≤ (i : Int)) = true := by simp; omega
          clear hK
          go_wp2_with fail
          refine HPRD.out.mono ?_
          rintro e w2 ⟨⟨cb1, G1, rfl, him, hg1⟩, hc2⟩
          have HI2 := Lib.hid (IMB.of_im him); have HG1 := Lib.hid hg1; have HO2 := Lib.hid (owns_chg HO.out hc2); have HC2 := Lib.hid hc2
          clear him hg1 hc2
          have hsz2 := HC2.out.size
          obtain ⟨s1, hs1⟩ : ∃ s1, wr.heap.size = s1 := ⟨_, rfl⟩
          have HS1M := Lib.hid (show wM.heap.size ≤ s1 by rw [← hs1]; exact HC.out.size)
          have HVB := Lib.hid (show ∀ g, ov.ownBlock = some g → wM.heap.size ≤ g from fun g hg => (HO.out.lt g hg).1)
          have HCT := Lib.hid (HC.out.trans HC2.out (fun _ x => x.elim))
          rw [hs1] at HI2 hsz2
          have HVS := Lib.hid (show ∀ g, ov.ownBlock = some g → g < s1 from fun g hg => by rw [← hs1]; exact (HO.out.lt g hg).2)
          clear hs1
          go_wp2_with fail
          go_loopg [64, 16] i (fun gm jv tv wr => ∃ j : Nat, j ≤ i ∧ gm = i - j ∧ jv = .int .i64 j ∧ tv = .int .i64 (trF B1 j) ∧ wr = w2)
          case atStart => exact ⟨0, by omega, by omega, rfl, rfl, rfl⟩
          case round =>
            obtain ⟨j, hj, rfl, rfl, rfl, rfl⟩ := hrel
            by_cases hjl : j < i
            · have d2 : decide (j < i) = true := by simpa using hjl
              have hjG : j < G1.length := by rw [HG1.out]; exact hjl
              have m1 := HI2.out.outer_at hjG
              have m2 := HI2.out.ent_at hjG hjl
              obtain ⟨g, hg⟩ : ∃ g, G1[j].1 = g := ⟨_, rfl⟩
              obtain ⟨gc, hgc⟩ : ∃ gc, G1[j].2 = gc := ⟨_, rfl⟩
              rw [hg] at m1 m2
              rw [hgc] at m1
              clear hg hgc hjG
              have HTS := Lib.hid (show trF B1 (j + 1) = wrap64 (trF B1 j + ent B1 j j) from rfl)
              obtain ⟨x, hx⟩ : ∃ x, ent B1 j j = x := ⟨_, rfl⟩
              obtain ⟨y, hy⟩ : ∃ y, trF B1 j = y := ⟨_, rfl⟩
              rw [hx] at m2
              rw [hx, hy] at HTS
              rw [hy]
              clear hx hy
              go_wp2_with fail
              go_roundg (i - (j + 1))
              case measure => omega
              case rel => exact ⟨j + 1, by omega, rfl, by go_num, by rw [HTS.out], rfl⟩
            · obtain rfl : j = i := by omega
              obtain ⟨T, hT⟩ : ∃ T, trF B1 j = T := ⟨_, rfl⟩
              rw [hT] at HNX1 HNX2 ⊢
              clear hT
              go_upto_region 27 with (fail)
              obtain ⟨c, hc⟩ : ∃ c, wrap64 (T.tdiv (K : Int)) = c := ⟨_, rfl⟩
              rw [hc] at HNX1 HNX2 ⊢
              clear hc
              have HX3 := Lib.hid (Blk.new wr #[.int .i64 c] 3)
              have HOA := Lib.hid (owns_chg HO2.out ((Chg.refl (fun _ => False) wr).alloc (.cells #[.int .i64 c] 3)))
              have HIA := Lib.hid (HI2.out.kept ((Chg.refl (fun _ => False) wr).alloc (.cells #[.int .i64 c] 3)) (fun _ _ _ x => x))
              have HCA := Lib.hid (HCT.out.alloc (.cells #[.int .i64 c] 3))
              have HBS := Lib.hid (show wM.heap.size ≤ (wr.alloc (.cells #[.int .i64 c] 3)).heap.size from HCA.out.size)
              obtain ⟨g3, hg3⟩ : ∃ g3, wr.heap.size = g3 := ⟨_, rfl⟩
              rw [hg3] at HX3
              have HSZ := Lib.hid (show (wr.alloc (.cells #[.int .i64 c] 3)).heap.size = g3 + 1 by show (wr.heap.push _).size = _; rw [Array.size_push, hg3])
              go_wp2_with (at_builtin; refine wpList_append_two rfl (.tmp 80) (.tmp 82) 29 rfl wM.heap.size 3 HI3.out.choose _ 1 8 Tryd.underlying29 HI3.out.choose_spec.1 HI3.out.choose_spec.2.1 HI3.out.choose_spec.2.2.1 HI3.out.choose_spec.2.2.2 rfl (by decide) ov k _ (by simp [Act.eval]) HOA.out ⟨g3, 0, none⟩ 1 1 [.int .i64 c] (by simp [Act.eval]) rfl (fun j v hj => by rw [add_plain, Nat.zero_add]; exact HX3.out.cell_some hj) (by intro v hv; simp at hv; subst hv; rfl) (by unfold maxLen; omega) (by omega) HBS.out ?_)
              intro v' w3 hown' hgrow htwo
              have hcg := Chg.of_grownRow hgrow
              have HO3 := Lib.hid hown'
              have HI3b := Lib.hid (HIA.out.kept hcg (fun g h1 h2 h3 => by have := HVS.out g h3.symm; omega))
              have HC3 := Lib.hid (HCA.out.trans hcg (fun g hg => .inr (HVB.out g hg.symm)))
              have HV3 : Hid (∀ g, v'.ownBlock = some g → ¬ (s1 ≤ g ∧ g < g3 + 1)) := Lib.hid (fun g hg hgg => by
                rcases htwo with h | ⟨g', h1, h2⟩
                · rw [h] at hg
                  have := HVS.out g hg
                  omega
                · rw [h2] at hg
                  cases hg
                  omega)
              have HGL : Hid (∀ q (h : q < G1.length), G1[q].1 < g3 + 1) := Lib.hid (fun q hq => by have := (HI2.out.rows q hq).lt; omega)
              clear hown' hgrow htwo hcg hg3
              go_wp2_with fail
              go_loopg [86] j (fun gm iv wr => ∃ q : Nat, q ≤ j ∧ gm = j - q ∧ iv = .int .i64 q ∧ IMB s1 wr cb1 j j (subF B1 c q) G1 ∧ Chg (fun k => s1 ≤ k ∧ k < g3 + 1) w3 wr)
              case atStart => exact ⟨0, by omega, by omega, rfl, HI3b.out, Chg.refl _ _⟩
              case round =>
                obtain ⟨q, hq, rfl, rfl, him, hch⟩ := hrel
                have HI := Lib.hid him; have HCH := Lib.hid hch
                clear him hch
                by_cases hql : q < j
                · have d3 : decide (q < j) = true := by simpa using hql
                  have hqG : q < G1.length := by rw [HG1.out]; exact hql
                  have m1 := HI.out.outer_at hqG
                  have m2 := HI.out.ent_at hqG hql
                  have m3 := HI.out.free hqG q
                  have HIS := Lib.hid (HI.out.set hqG hql (wrap64 (ent (subF B1 c q) q q - c)))
                  have HGA := Lib.hid (show s1 ≤ G1[q].1 ∧ G1[q].1 < g3 + 1 from ⟨HI.out.og q hqG, HGL.out q hqG⟩)
                  have HSS := Lib.hid (show subF B1 c (q + 1) = (subF B1 c q).set q ((row (subF B1 c q) q).set q (wrap64 (ent (subF B1 c q) q q - c))) from rfl)
                  obtain ⟨g, hg⟩ : ∃ g, G1[q].1 = g := ⟨_, rfl⟩
                  obtain ⟨gc, hgc⟩ : ∃ gc, G1[q].2 = gc := ⟨_, rfl⟩
                  rw [hg] at m1 m2 m3 HIS HGA
                  rw [hgc] at m1
                  clear hg hgc hqG
                  obtain ⟨x, hx⟩ : ∃ x, ent (subF B1 c q) q q = x := ⟨_, rfl⟩
                  rw [hx] at m2 HIS HSS
                  clear hx
                  go_wp2_with fail
                  go_roundg (j - (q + 1))
                  case measure => omega
                  case rel => exact ⟨q + 1, by omega, rfl, by go_num, by rw [HSS.out]; exact HIS.out, HCH.out.setCell (a := ⟨g, q, none⟩) (.inl HGA.out) _⟩
                · obtain rfl : q = j := by omega
                  go_wp2_with fail
                  go_roundg (q - (k + 1))
                  case measure => have := HKK.out; omega
                  case rel =>
                    refine ⟨k + 1, cb1, by have := HKK.out; omega, rfl, by have := HKK.out; go_num, rfl, ?_, ?_, ?_⟩
                    · rw [HKK.out, HNX1.out]; exact HI.out.mat (Nat.le_of_eq HG1.out.symm)
                    · rw [HKK.out, HNX2.out, show ivL ((recF q M k).2 ++ [c]) = ivL (recF q M k).2 ++ [.int .i64 c] by simp [ivL], ← HKK.out]
                      exact owns_chgS HO3.out HCH.out HV3.out
                    · exact HC3.out.trans HCH.out (fun g hg => .inr (by have := HS1M.out; omega))
        · obtain rfl : k = i := by omega
          have d1 : decide ((K : Int) ≤ (k : Int)) = false := by simp; omega
          clear HNX1 HNX2 HPRD
          go_wp2_with fail
          go_ret2
          obtain ⟨ao, g, c, hv, hX, hI, _⟩ := owns_list HO.out
          have hlen : (recF k M k).2.length = k := by have := HO.out.1; rw [ivL_len] at this; omega
          have hao := hX.resolve_left (fun e => by rw [e] at hlen; simp at hlen; omega)
          refine ⟨⟨g, c, ?_, ?_, ?_⟩, HCM.out.trans HC.out (fun _ x => x.elim)⟩
          · rw [hlen] at hv
            subst hv
            subst hao
            rfl
          · rw [HRV.out]; exact hI
          · rw [HRV.out]; exact hlen
end Go.Proofs.YtilacamhjibneaaDoor

/- Buds, walked. Their conditions are their premises. -/
namespace Go.Proofs.YtilacamhjibneaaDoor
open Go.RowKit

def kindP (V : List (List Nat)) (c : Nat) : Bool := decide (0 < natK V c)
theorem lit_any (V : List (List Nat)) (hV : WF V) (c : Nat) (hc : c < V.length) (pb kb kcap : Nat) (w : World) (hp : w.cell? ⟨pb, 0, none⟩ = some (.slice (some ⟨kb, 0, none⟩) V.length kcap)) (hk : NatsAt w kb 0 (setF V.length (natK V) V.length)) :
    Calls Tryd.prog 88 #[.int .u8 ((97 + c : Nat) : Int), .pointer (some ⟨pb, 0, none⟩)] w fun e w' => e = .returned (.bool (kindP V c)) ∧ w' = w := by
  have hn6 := hV.le
  have hu8 := u8_chr c (by omega)
  have k1 := nats_at hk (i := c) (by rw [setF_len]; exact hc)
  rw [setF_at _ _ _ hc _ (Nat.le_refl _), if_pos hc, Nat.zero_add] at k1
  obtain ⟨C, hC⟩ : ∃ C, 97 + c = C := ⟨_, rfl⟩
  rw [hC] at hu8 ⊢
  clear hC hk
  have hci : (c : Int) < (V.length : Int) := by omega
  have HK := Lib.hid (show kindP V c = decide (0 < natK V c) from rfl)
  obtain ⟨x, hx⟩ : ∃ x, natK V c = x := ⟨_, rfl⟩
  rw [hx] at k1 HK
  clear hx
  go_enter Tryd.func88, Tryd.ntmps88
  go_wp2_with fail
  go_ret
  exact ⟨by rw [HK.out]; simp, rfl⟩

/-- The bytes of letters. -/
def U8At (w : World) (b off : Nat) (l : List Nat) : Prop := ∀ k (h : k < l.length), w.cell? ⟨b, off + k, none⟩ = some (.int .u8 ((97 + l[k] : Nat) : Int))
theorem any_take_succ {q : Nat → Bool} {l : List Nat} {j : Nat} (h : j < l.length) (h1 : (l.take j).any q = false) (h2 : q l[j] = false) : (l.take (j + 1)).any q = false := by
  rw [List.take_succ_eq_append_getElem h, List.any_append, h1]
  simp [h2]

set_option maxRecDepth 100000 in
set_option maxHeartbeats 1000000 in
theorem index_any (q : Nat → Bool) (l : List Nat) (hl : l.length ≤ 1000) (pb : Nat) (b cap : Nat) (w : World) (hu : U8At w b 0 l)
    (hcall : ∀ c ∈ l, Calls Tryd.prog 88 #[.int .u8 ((97 + c : Nat) : Int), .pointer (some ⟨pb, 0, none⟩)] w fun e w' => e = .returned (.bool (q c)) ∧ w' = w) :
    Calls Tryd.prog 99 #[.slice (some ⟨b, 0, none⟩) l.length cap, .func (.func 88) #[] #[.pointer (some ⟨pb, 0, none⟩)]] w fun e w' => (∃ r : Int, e = .returned (.int .i64 r) ∧ decide (0 ≤ r) = l.any q) ∧ w' = w := by
  have HU := Lib.hid hu; have HC := Lib.hid hcall
  clear hu hcall
  go_enter Tryd.func99, Tryd.ntmps99
  go_wp2_with fail
  go_loopg [8] l.length (fun gm jv wr => ∃ j : Nat, j ≤ l.length ∧ gm = l.length - j ∧ jv = .int .i64 j ∧ (l.take j).any q = false ∧ wr = w)
  case atStart => exact ⟨0, by omega, by omega, rfl, rfl, rfl⟩
  case round =>
    obtain ⟨j, hj, rfl, rfl, hn, rfl⟩ := hrel
    have HN := Lib.hid hn
    clear hn
    by_cases hjl : j < l.length
    · have d0 : decide (j < l.length) = true := by simpa using hjl
      have y1 := HU.out j hjl
      rw [Nat.zero_add] at y1
      have HCJ := Lib.hid (HC.out _ (List.getElem_mem hjl))
      have HTS := Lib.hid (any_take_succ (q := q) hjl HN.out)
      have HAN := Lib.hid (show q l[j] = true → l.any q = true from fun h => List.any_eq_true.2 ⟨_, List.getElem_mem hjl, h⟩)
      obtain ⟨c, hc⟩ : ∃ c, l[j] = c := ⟨_, rfl⟩
      rw [hc] at y1 HCJ HTS HAN
      clear hc
      obtain ⟨C, hC⟩ : ∃ C, 97 + c = C := ⟨_, rfl⟩
      rw [hC] at y1 HCJ
      clear hC
      obtain ⟨x, hx⟩ : ∃ x, q c = x := ⟨_, rfl⟩
      rw [hx] at HCJ HTS HAN
      clear hx
      cases x
      · have HTN := Lib.hid (HTS.out rfl)
        clear HTS HAN
        go_wp2_with fail
        refine HCJ.out.mono ?_
        rintro e w1 ⟨rfl, rfl⟩
        go_wp2_with fail
        go_roundg (l.length - (j + 1))
        case measure => omega
        case rel => exact ⟨j + 1, by omega, rfl, by go_num, HTN.out, rfl⟩
      · have HAT := Lib.hid (HAN.out rfl)
        clear HTS HAN
        go_wp2_with fail
        refine HCJ.out.mono ?_
        rintro e w1 ⟨rfl, rfl⟩
        go_wp2_with fail
        go_ret
        exact ⟨⟨(j : Int), rfl, by rw [HAT.out]; simp⟩, rfl⟩
    · obtain rfl : j = l.length := by omega
      go_wp2_with fail
      go_ret
      exact ⟨⟨-1, rfl, by have := HN.out; rw [List.take_length] at this; rw [this]; rfl⟩, rfl⟩

set_option maxRecDepth 100000 in
theorem contains_any (q : Nat → Bool) (l : List Nat) (hl : l.length ≤ 1000) (pb : Nat) (b cap : Nat) (w : World) (hu : U8At w b 0 l)
    (hcall : ∀ c ∈ l, Calls Tryd.prog 88 #[.int .u8 ((97 + c : Nat) : Int), .pointer (some ⟨pb, 0, none⟩)] w fun e w' => e = .returned (.bool (q c)) ∧ w' = w) :
    Calls Tryd.prog 87 #[.slice (some ⟨b, 0, none⟩) l.length cap, .func (.func 88) #[] #[.pointer (some ⟨pb, 0, none⟩)]] w fun e w' => e = .returned (.bool (l.any q)) ∧ w' = w := by
  have HI := Lib.hid (index_any q l hl pb b cap w hu hcall)
  clear hu hcall
  go_enter Tryd.func87, Tryd.ntmps87
  go_wp2_with fail
  refine HI.out.mono ?_
  rintro e w1 ⟨⟨r, rfl, hr⟩, rfl⟩
  have HR := Lib.hid hr
  clear hr
  go_wp2_with fail
  go_ret
  exact ⟨by rw [← HR.out]; rfl, rfl⟩

def budV (V : List (List Nat)) (i : Nat) : Bool := decide (2 ≤ (part V i).length) && decide (at0 (part V i) 0 = i) && (part V i).tail.any (kindP V)
theorem str_tail (p : List Nat) : (str p).extract 1 p.length = str p.tail := by
  apply ByteArray.ext
  apply Array.ext'
  show _ = List.map chr p.tail
  rw [Lib.extract_data]
  cases p with
  | nil => rfl
  | cons a p => simp [str, List.take_of_length_le]

theorem str_zero {p : List Nat} (h0 : 0 < p.length) (hc : p[0] < 100) (h : 0 < (str p).size) : ((str p)[0]'h).toNat = 97 + p[0] := by
  cases p with
  | nil => simp at h0
  | cons a r =>
    show (chr a).toNat = 97 + a
    have hc' : a < 100 := hc
    unfold chr
    simp
    omega

set_option maxRecDepth 100000 in
set_option maxHeartbeats 1000000 in
theorem bud_any (V : List (List Nat)) (hV : WF V) (i : Nat) (hi : i < V.length) (b off cap : Nat) (w : World) (hv : VAt w b off V) :
    Calls Tryd.prog 66 #[.slice (some ⟨b, off, none⟩) V.length cap, .int .i64 (i : Int)] w fun e w' => e = .returned (.bool (budV V i)) ∧ Chg (fun _ => False) w w' := by
  have hn6 := hV.le
  have c0 := hv i hi
  rw [← part_lt hi] at c0
  have hp8 := (hV.part_le i).1
  have HP := Lib.hid (hV.part_le i).2
  have HB := Lib.hid (show budV V i = (decide (2 ≤ (part V i).length) && decide (at0 (part V i) 0 = i) && (part V i).tail.any (kindP V)) from rfl)
  have HN := Lib.hid (nature_any V hV b off cap w hv)
  have HWF := Lib.hid hV
  obtain ⟨p, hp⟩ : ∃ p, part V i = p := ⟨_, rfl⟩
  rw [hp] at c0 hp8 HP HB
  clear hp hv hV
  have hsz := str_size p
  by_cases h2 : p.length < 2
  · have HBF := Lib.hid (show budV V i = false by rw [HB.out, decide_eq_false (by omega)]; rfl)
    go_enter Tryd.func66, Tryd.ntmps66
    go_wp2_with fail
    go_ret
    exact ⟨by rw [HBF.out]; rfl, Chg.refl _ _⟩
  · have h0 : 0 < p.length := by omega
    have hcn := HP.out _ (List.getElem_mem h0)
    have h00 : ∀ h, ((str p)[0]'h).toNat = 97 + p[0] := fun h => str_zero h0 (by omega) h
    have HA0 := Lib.hid (at0_lt_of h0)
    obtain ⟨c, hc⟩ : ∃ c, p[0] = c := ⟨_, rfl⟩
    rw [hc] at hcn HA0
    simp only [hc] at h00
    have hmod : (((97 + c : Nat) : Int) - 97) % 256 = (c : Int) := by omega
    obtain ⟨C, hC⟩ : ∃ C, 97 + c = C := ⟨_, rfl⟩
    rw [hC] at hmod
    simp only [hC] at h00
    have d2 : decide ((p.length : Int) < 2) = false := by simp; omega
    clear hc hC
    rw [HA0.out, decide_eq_true (show 2 ≤ p.length by omega)] at HB
    by_cases hci : c = i
    · rw [decide_eq_true hci] at HB
      subst hci
      go_enter Tryd.func66, Tryd.ntmps66
      go_wp2_with fail
      refine HN.out.mono ?_
      rintro e w1 ⟨kb, sb, rfl, hk, hs, hc2⟩
      have HK := Lib.hid hk; have HC2 := Lib.hid hc2
      clear hk hs hc2
      have HPT := Lib.hid (fun d (hd : d ∈ p.tail) => HP.out d (List.mem_of_mem_tail hd))
      obtain ⟨pb, hpb⟩ : ∃ pb, w1.heap.size = pb := ⟨_, rfl⟩
      have HKC := Lib.hid ((Blk.new w1 #[.slice (some ⟨kb, 0, none⟩) V.length V.length] 29).cell_some (i := 0) rfl)
      have HCA := Lib.hid ((Chg.refl (fun _ => False) w1).alloc (.cells #[.slice (some ⟨kb, 0, none⟩) V.length V.length] 29))
      rw [hpb] at HKC
      obtain ⟨cc, w9, hcv, hby, hc9, hsz9⟩ := conv_bytes p.tail (fun d hd => by have := HPT.out d hd; omega) (w1.alloc (.cells #[.slice (some ⟨kb, 0, none⟩) V.length V.length] 29))
      rw [← str_tail] at hcv
      obtain ⟨qb, hqb⟩ : ∃ qb, (w1.alloc (.cells #[.slice (some ⟨kb, 0, none⟩) V.length V.length] 29)).heap.size = qb := ⟨_, rfl⟩
      rw [hqb] at hcv hby
      have HCN := Lib.hid (contains_any (kindP V) p.tail (by rw [List.length_tail]; omega) pb qb cc w9 (fun k h => by rw [Nat.zero_add]; exact hby k h) (fun d hd => lit_any V HWF.out d (HPT.out d hd) pb kb V.length w9 (hc9.cell_some HKC.out (fun x => x)) ((HK.out.chg HCA.out (fun x => x)).chg hc9 (fun x => x))))
      have HC9 := Lib.hid ((HC2.out.trans HCA.out (fun _ x => x.elim)).trans hc9 (fun _ x => x.elim))
      obtain ⟨L, hL⟩ : ∃ L, p.tail.length = L := ⟨_, rfl⟩
      rw [hL] at HCN hcv
      clear hby hsz9 hc9 hqb hL
      go_wp2_with fail
      refine HCN.out.mono ?_
      rintro e w2 ⟨rfl, rfl⟩
      go_wp2_with fail
      go_ret
      exact ⟨by rw [HB.out]; simp, HC9.out⟩
    · rw [decide_eq_false hci] at HB
      have hci' : ¬ (c : Int) = (i : Int) := by omega
      have HBF := Lib.hid (show budV V i = false from HB.out)
      go_enter Tryd.func66, Tryd.ntmps66
      go_wp2_with fail
      go_ret
      exact ⟨by rw [HBF.out]; rfl, Chg.refl _ _⟩
end Go.Proofs.YtilacamhjibneaaDoor

/- Bytes of the call's own that grow by strings; the first letters of the endless shoot of a bud, walked. Their conditions are their premises. -/
namespace Go
/-- n bytes from the block's first cell on, with room up to c. -/
structure QueC (w : World) (g c n : Nat) (cs : List Value) : Prop where
  lt : g < w.heap.size
  le : n ≤ c
  len : cs.length = n
  at_ : ∀ j u, cs[j]? = some u → w.cell? ⟨g, j, none⟩ = some u
  there : ∀ j, j < c → (w.cell? ⟨g, j, none⟩).isSome = true
  free : ∀ j, j < c → w.frozen? ⟨g, j, none⟩ = false
theorem QueC.chg {S : Nat → Prop} {w w' : World} {g c n : Nat} {cs : List Value} (h : QueC w g c n cs) (hc : Chg S w w') (hn : ¬ S g) : QueC w' g c n cs :=
  ⟨Nat.lt_of_lt_of_le h.lt hc.size, h.le, h.len, fun j u hj => hc.cell_some (h.at_ j u hj) hn, fun j hj => by rw [hc.cell (p := ⟨g, j, none⟩) h.lt hn]; exact h.there j hj, fun j hj => by rw [hc.frozen (p := ⟨g, j, none⟩) h.lt hn]; exact h.free j hj⟩
section
variable {P : Program}
theorem run_append_str (w : World) (t u ty e : TypeId) (i : TypeInfo) (ht : P.underlying t = some (.slice e)) (hu : P.underlying u = some .string) (hi : P.info? e = some i) (hz : i.zero = some (.int .u8 0)) (hsize : i.size = 1) (hby : i.bytes = 1)
    (g c n : Nat) (xs : List Value) (hq : QueC w g c n xs) (s : ByteArray) (h63 : n + s.size ≤ maxLen) (hbytes : n + s.size ≤ 140737488355328) :
    ∃ g' c' w', (Builtin.append_ #[t, u] ty #[.slice (some ⟨g, 0, none⟩) n c, .string s]).run P w = .ok (.slice (some ⟨g', 0, none⟩) (n + s.size) c') w' ∧ QueC w' g' c' (n + s.size) (xs ++ Lib.strCells s) ∧
      (g' = g ∨ w.heap.size ≤ g') ∧ Chg (fun k => k = g) w w' := by
  have hlen : (xs ++ Lib.strCells s).length = n + s.size := by rw [List.length_append, hq.len, Lib.strCells_length]
  by_cases hroom : n + s.size ≤ c
  · have hthere : ∀ j, j < (Lib.strCells s).length → (w.cell? ⟨g, n + j, none⟩).isSome = true := fun j hj => by
      rw [Lib.strCells_length] at hj
      exact hq.there _ (by omega)
    have hf := Lib.run_firstCells_string (P := P) w 1 s
    have hst := run_storeCells_cells (P := P) g n (Lib.strCells s) 0 w (by simpa using hthere) (fun j hj => by rw [Lib.strCells_length] at hj; exact hq.free _ (by omega)) (Lib.strCells_oneCell s)
    simp only [Nat.add_zero] at hst
    refine ⟨g, c, w.setCells g n (Lib.strCells s), ?_, ⟨?_, hroom, hlen, fun j u hj => ?_, fun j hj => World.isSome_setCells g _ _ w _ (hq.there j hj), fun j hj => ?_⟩, .inl rfl, (Chg.refl (fun k => k = g) w).setCells (.inl rfl) _ _⟩
    · simp [Builtin.append_, run_underlying ht, run_underlying hu, sizeOf, typeInfo, hi, hsize, Builtin.lenOf, hroom, hf, Addr.add_lit, hst]
    · exact Nat.lt_of_lt_of_le hq.lt ((Chg.refl (fun k => k = g) w).setCells (.inl rfl) (Lib.strCells s) n).size
    · by_cases hx : j < xs.length
      · rw [List.getElem?_append_left hx] at hj
        rw [World.cell?_setCells_out g _ _ w ⟨g, j, none⟩ (fun _ _ => .inl (by show j < n; have := hq.len; omega))]
        exact hq.at_ j u hj
      · rw [List.getElem?_append_right (by omega)] at hj
        have hjl : j - xs.length < (Lib.strCells s).length := (List.getElem?_eq_some_iff.1 hj).1
        have := World.cell?_setCells_in g (Lib.strCells s) n w hthere (j - xs.length) hjl
        rw [show n + (j - xs.length) = j by have := hq.len; omega] at this
        rw [this]
        rw [List.getElem?_eq_getElem hjl] at hj
        exact hj
    · rw [World.frozen?_setCells]
      exact hq.free j hj
  · have hsm : n + s.size ≤ 9223372036854775807 := by simp only [maxLen] at h63; omega
    have hr := Lib.run_append_grow_string (P := P) w t u ty e i (.int .u8 0) ht hu hi hz ⟨g, 0, none⟩ n c xs (by rw [hsize, Nat.mul_one]; exact hq.len) (fun j v hj => by rw [Go.Proofs.YtilacamhjibneaaDoor.add_plain, Nat.zero_add]; exact hq.at_ j v hj) s (by omega) (by omega) (by rw [hby]; exact growslice_fits (by omega) (by omega))
    have hge := grownCap_ge w (n + s.size) c e
    obtain ⟨C, hC⟩ : ∃ C, grownCap w (n + s.size) c e = C := ⟨_, rfl⟩
    rw [hC] at hr hge
    have hz1 : (Value.int IntKind.u8 0).cells.size = 1 := rfl
    obtain ⟨arr, harr⟩ : ∃ arr, xs.toArray ++ (Lib.strCells s).toArray ++ Builtin.zeroCells (Value.int .u8 0).cells (C - (n + s.size)) = arr := ⟨_, rfl⟩
    have hsz : arr.size = C := by
      rw [← harr]
      simp only [Array.size_append, List.size_toArray, size_zeroCells, hz1, hq.len, Lib.strCells_length]
      omega
    rw [harr] at hr
    have hh : (w.drew.alloc (.cells arr e)).heap[w.heap.size]? = some (.cells arr e (0, 0)) := heap_alloc_new w.drew _
    refine ⟨w.heap.size, C, _, hr, ⟨?_, hge, hlen, fun j u hj => ?_, fun j hj => ?_, fun j hj => ?_⟩, .inr (Nat.le_refl _), ((Chg.refl _ w).drew).alloc _⟩
    · exact (Array.getElem?_eq_some_iff.1 hh).1
    · have hjl : j < (xs ++ Lib.strCells s).length := (List.getElem?_eq_some_iff.1 hj).1
      have ha : arr[j]? = some u := by
        rw [← harr, Array.getElem?_append_left (by simpa using hjl)]
        rw [← hj]
        simp
      unfold World.cell?
      rw [hh]
      simpa using ha
    · unfold World.cell?
      rw [hh]
      simp
      omega
    · unfold World.frozen?
      rw [hh]
      simp
theorem wpList_append_str {w : World} {ops : Array Oper} {rest : List Oper} {o : Oper} {a : Act} {Q : Exit → Act → World → Prop} (hgd : o.guard = none) (sl x : Operand) (t u : TypeId)
    (ho : o.op = .call { callee := .builtin .append, args := #[sl, x], argTypes := #[t, u] })
    (e : TypeId) (i : TypeInfo) (ht : P.underlying t = some (.slice e)) (hu : P.underlying u = some .string) (hi : P.info? e = some i) (hz : i.zero = some (.int .u8 0)) (hsize : i.size = 1) (hby : i.bytes = 1)
    (g c n : Nat) (xs : List Value) (hs : a.eval sl = .slice (some ⟨g, 0, none⟩) n c) (hq : QueC w g c n xs) (s : ByteArray) (hx : a.eval x = .string s) (h63 : n + s.size ≤ maxLen) (hbytes : n + s.size ≤ 140737488355328)
    (h : ∀ g' c' w', QueC w' g' c' (n + s.size) (xs ++ Lib.strCells s) → (g' = g ∨ w.heap.size ≤ g') → Chg (fun k => k = g) w w' → wpList P ops Q rest (a.put o.dst (.slice (some ⟨g', 0, none⟩) (n + s.size) c')) w') : wpList P ops Q (o :: rest) a w := by
  refine wpList_step fun K hK => ?_
  rw [if_pos (by simp [Region.wanted, hgd])]
  obtain ⟨g', c', w', hrun, r1, r2, r3⟩ := run_append_str (P := P) w t u o.type e i ht hu hi hz hsize hby g c n xs hq s h63 hbytes
  unfold Oper.wp
  simp [execOp, ho, resolve, invoke, builtin, hs, hx, hrun, Result.andThen]
  exact hK _ _ (h g' c' w' r1 r2 r3)
end
end Go
namespace Go.Proofs.YtilacamhjibneaaDoor
open Go.RowKit
def u8V (l : List Nat) : List Value := l.map fun c => .int .u8 ((97 + c : Nat) : Int)
theorem strCells_str {t : List Nat} (ht : ∀ c ∈ t, c < 100) : Lib.strCells (str t) = u8V t := by
  unfold Lib.strCells u8V str
  simp only [List.map_map]
  refine List.map_congr_left (fun c hc => ?_)
  have := ht c hc
  simp [chr]
  omega
theorem conv_que (t : List Nat) (ht : ∀ c ∈ t, c < 100) (w : World) : ∃ c w', (convert 9 52 (.string (str t))).run Tryd.prog w = .ok (.slice (some ⟨w.heap.size, 0, none⟩) t.length c) w' ∧
    QueC w' w.heap.size c t.length (u8V t) ∧ Chg (fun _ => False) w w' := by
  have h := run_bytes_of_string (P := Tryd.prog) w 9 52 5 (str t) Tryd.underlying9 Tryd.underlying52 Tryd.underlying5
  rw [str_size] at h
  have hge := grownCap_ge w t.length 0 5
  obtain ⟨C, hC⟩ : ∃ C, grownCap w t.length 0 5 = C := ⟨_, rfl⟩
  rw [hC] at h hge
  have hsz : (bytesRow (str t) C).size = C := by
    unfold bytesRow
    rw [str_size]
    simp [str]
    omega
  obtain ⟨arr, harr⟩ : ∃ arr, bytesRow (str t) C = arr := ⟨_, rfl⟩
  rw [harr] at h hsz
  have hh : ∀ o : Obj, (w.drew.alloc o).heap[w.heap.size]? = some o := fun o => by
    show (w.heap.push o)[w.heap.size]? = _
    simp
  refine ⟨C, _, h, ⟨?_, hge, by simp [u8V], fun j u hj => ?_, fun j hj => ?_, fun j hj => ?_⟩, ((Chg.refl _ w).drew).alloc _⟩
  · exact (Array.getElem?_eq_some_iff.1 (hh _)).1
  · have hjl : j < t.length := by have := (List.getElem?_eq_some_iff.1 hj).1; simpa [u8V] using this
    have ha : arr[j]? = some u := by
      rw [← harr]
      unfold bytesRow
      rw [Array.getElem?_append_left (by simp [str]; exact hjl), ← hj, ← strCells_str ht]
      simp [Lib.strCells]
    unfold World.cell?
    rw [hh]
    simpa using ha
  · unfold World.cell?
    rw [hh]
    simp
    omega
  · unfold World.frozen?
    rw [hh]
    simp
    omega
end Go.Proofs.YtilacamhjibneaaDoor

/- The first letters of the endless shoot of a bud, walked. Its conditions are its premises. -/
namespace Go.Proofs.YtilacamhjibneaaDoor
open Go.RowKit

/-- What is there after k rounds. -/
def bg (V : List (List Nat)) (i : Nat) : Nat → List Nat
  | 0 => part V i
  | k + 1 => bg V i k ++ part V (at0 (bg V i k) (k + 1))
theorem bg_lt {V : List (List Nat)} (hV : WF V) (i : Nat) : ∀ k, ∀ c ∈ bg V i k, c < V.length
  | 0 => (hV.part_le i).2
  | k + 1 => fun c hc => by
    rw [bg] at hc
    rcases List.mem_append.1 hc with hc | hc
    · exact bg_lt hV i k c hc
    · exact (hV.part_le _).2 c hc
theorem u8V_app (l m : List Nat) : u8V (l ++ m) = u8V l ++ u8V m := by simp [u8V]
theorem u8V_at {l : List Nat} {k : Nat} (h : k < l.length) : (u8V l)[k]? = some (.int .u8 ((97 + at0 l k : Nat) : Int)) := by
  unfold u8V at0
  rw [List.getElem?_map, List.getElem?_eq_getElem h]
  rfl
theorem at0_mem {l : List Nat} {k : Nat} (h : k < l.length) : at0 l k ∈ l := by
  rw [at0_lt_of h]
  exact List.getElem_mem h
/-- The rounds never lack a letter before there are so many. -/
def Fed (V : List (List Nat)) (i many : Nat) : Prop := ∀ k, (bg V i k).length < many → k + 1 < (bg V i k).length
theorem infoByte5 : (Tryd.prog.info? 5).map (fun i => (i.zero, i.size, i.bytes)) = some (some (.int .u8 0), 1, 1) := by kernel_rfl

set_option maxRecDepth 100000 in
set_option maxHeartbeats 1000000 in
theorem first_ok (V : List (List Nat)) (hV : WF V) (i : Nat) (hi : i < V.length) (hbud : budV V i = true) (many : Nat) (hm : many ≤ 100000) (hfed : Fed V i many) (b off cap : Nat) (w : World) (hv : VAt w b off V) :
    Calls Tryd.prog 47 #[.slice (some ⟨b, off, none⟩) V.length cap, .string (str [i]), .int .i64 (many : Int)] w fun e w' => (∃ g c K, e = .returned (.tuple #[.slice (some ⟨g, 0, none⟩) many c, .int .i64 0]) ∧ many ≤ c ∧ many ≤ (bg V i K).length ∧ U8At w' g 0 ((bg V i K).take many)) ∧ Chg (fun _ => False) w w' := by
  have hn6 := hV.le
  have HI5 : Hid (∃ i0, Tryd.prog.info? 5 = some i0 ∧ i0.zero = some (.int .u8 0) ∧ i0.size = 1 ∧ i0.bytes = 1) := Lib.hid (by
    obtain ⟨i0, h0, h1, h2, h3⟩ := info_parts infoByte5
    exact ⟨i0, h0, h1, h2, h3⟩)
  have HO := Lib.hid (of_ok V hV b off cap w hv)
  have HSH := Lib.hid (shoots_any (some ⟨b, off, none⟩) V.length cap (str [i]) w (by omega) (by rw [str_size]; simp))
  rw [okS_str (by omega) (t := [i]) (by intro c hc; simp at hc; subst hc; exact hi)] at HSH
  have HBD := Lib.hid (bud_any V hV i hi b off cap w hv)
  rw [hbud] at HBD
  have h0s : ∀ bs, str [i] = bs → ∀ h : 0 < bs.size, (bs[0]'h).toNat = 97 + i := by
    rintro _ rfl h
    exact str_zero (p := [i]) (by simp) (by simp; omega) h
  have hs1 : (str [i]).size = 1 := str_size [i]
  have HV := Lib.hid hv; have HWF := Lib.hid hV; have HFED := Lib.hid hfed
  have HBL := Lib.hid (bg_lt hV i)
  obtain ⟨bs, hbs⟩ : ∃ bs, str [i] = bs := ⟨_, rfl⟩
  rw [hbs] at HSH hs1 ⊢
  have h00 := h0s bs hbs
  clear h0s
  have hmod : (((97 + i : Nat) : Int) - 97) % 256 = (i : Int) := by omega
  obtain ⟨C, hC⟩ : ∃ C, 97 + i = C := ⟨_, rfl⟩
  rw [hC] at hmod
  simp only [hC] at h00
  have hii : (i : Int) < (V.length : Int) := by omega
  clear hv hV hbs hC hbud hfed
  go_enter Tryd.func47, Tryd.ntmps47
  go_wp2_with fail
  refine HO.out.mono ?_
  rintro e w1 ⟨rfl, rfl⟩
  go_wp2_with fail
  refine HSH.out.mono ?_
  rintro e w1 ⟨rfl, rfl⟩
  go_wp2_with fail
  refine HBD.out.mono ?_
  rintro e w2 ⟨rfl, hc2⟩
  have HC2 := Lib.hid hc2
  have v1 := (HV.out.chg hc2 (fun x => x)) i hi
  rw [← part_lt hi] at v1
  clear hc2
  have HP0 := Lib.hid (show bg V i 0 = part V i from rfl)
  obtain ⟨p, hp⟩ : ∃ p, part V i = p := ⟨_, rfl⟩
  rw [hp] at v1 HP0
  have HPL := Lib.hid (HBL.out 0)
  rw [HP0.out] at HPL
  clear hp
  obtain ⟨cc, w9, hcv, hq9, hc9⟩ := conv_que p (fun c hc => by have := HPL.out c hc; omega) w2
  obtain ⟨pb, hpb⟩ : ∃ pb, w2.heap.size = pb := ⟨_, rfl⟩
  rw [hpb] at hcv hq9
  have HQ9 := Lib.hid hq9; have HC9 := Lib.hid (HC2.out.trans hc9 (fun _ x => x.elim)); have HPB := Lib.hid (show w1.heap.size ≤ pb by rw [← hpb]; exact HC2.out.size)
  clear hq9 hc9 hpb
  go_wp2_with fail
  clear hcv v1 h00 hmod
  go_loopg [11, 10] many (fun gm kv ov wr => ∃ k g c : Nat, k ≤ many ∧ gm = many - k ∧ kv = .int .i64 ((k + 1 : Nat) : Int) ∧ ov = .slice (some ⟨g, 0, none⟩) (bg V i k).length c ∧ QueC wr g c (bg V i k).length (u8V (bg V i k)) ∧ w1.heap.size ≤ g ∧ Chg (fun _ => False) w1 wr ∧ (bg V i k).length ≤ many + 8)
  case atStart =>
    refine ⟨0, pb, cc, by omega, by omega, rfl, by rw [HP0.out], by rw [HP0.out]; exact HQ9.out, HPB.out, HC9.out, ?_⟩
    have := (HWF.out.part_le i).1
    show (part V i).length ≤ _
    omega
  case round =>
    clear HQ9 HC9
    obtain ⟨k, g, c, hk, rfl, rfl, rfl, hq, hg, hc, hl8⟩ := hrel
    have HQ := Lib.hid hq; have HG := Lib.hid hg; have HC := Lib.hid hc
    have HFK := Lib.hid (HFED.out k)
    have HNX := Lib.hid (show bg V i (k + 1) = bg V i k ++ part V (at0 (bg V i k) (k + 1)) from rfl)
    have HBK := Lib.hid (HBL.out k)
    clear hq hg hc
    obtain ⟨B, hB⟩ : ∃ B, bg V i k = B := ⟨_, rfl⟩
    have HBB := Lib.hid hB
    rw [hB] at HQ HFK HNX HBK hl8 ⊢
    clear hB
    obtain ⟨L, hL⟩ : ∃ L, B.length = L := ⟨_, rfl⟩
    have HLL := Lib.hid hL
    rw [hL] at HQ HFK hl8 ⊢
    by_cases hlt : L < many
    · have d0 : decide (L < many) = true := by simpa using hlt
      have hkL := HFK.out hlt
      have hkB : k + 1 < B.length := by omega
      have y1 := HQ.out.at_ _ _ (u8V_at hkB)
      have hcn := HBK.out _ (at0_mem hkB)
      have hu8 := u8_chr (at0 B (k + 1)) (by omega)
      obtain ⟨K, hK⟩ : ∃ K, k + 1 = K := ⟨_, rfl⟩
      have HKK := Lib.hid hK
      rw [hK] at hkL y1 hcn hu8 HNX ⊢
      have hKm : K ≤ 100000 := by omega
      obtain ⟨d, hd⟩ : ∃ d, at0 B K = d := ⟨_, rfl⟩
      rw [hd] at y1 hcn hu8 HNX
      obtain ⟨D, hD⟩ : ∃ D, 97 + d = D := ⟨_, rfl⟩
      rw [hD] at y1 hu8
      have v1 := (HV.out.chg HC.out (fun x => x)) d hcn
      rw [← part_lt hcn] at v1
      have hp8 := (HWF.out.part_le d).1
      have HPC := Lib.hid (HWF.out.part_le d).2
      obtain ⟨q, hq⟩ : ∃ q, part V d = q := ⟨_, rfl⟩
      rw [hq] at v1 hp8 HPC HNX
      clear hL hkB hK hd hD hq
      have hdi : (d : Int) < (V.length : Int) := by omega
      have hqs := str_size q
      go_wp2_with (at_builtin; refine wpList_append_str rfl (.tmp 52) (.tmp 60) 52 9 rfl 5 HI5.out.choose Tryd.underlying52 Tryd.underlying9 HI5.out.choose_spec.1 HI5.out.choose_spec.2.1 HI5.out.choose_spec.2.2.1 HI5.out.choose_spec.2.2.2 g c L _ (by simp [Act.eval]) HQ.out (str q) (by simp [Act.eval]) (by rw [hqs]; unfold maxLen; omega) (by rw [hqs]; omega) ?_)
      intro g' c' w6 hq6 hg6 hc6
      rw [strCells_str (fun c hc => by have := HPC.out c hc; omega), ← u8V_app, ← HNX.out] at hq6
      have HQ6 := Lib.hid hq6
      have HC6 := Lib.hid (HC.out.trans hc6 (fun k hk => .inr (by rw [hk]; exact HG.out)))
      have HG6 := Lib.hid (show w1.heap.size ≤ g' by
        rcases hg6 with h | h
        · rw [h]; exact HG.out
        · exact Nat.le_trans HC.out.size h)
      have HLN := Lib.hid (show (bg V i K).length = L + q.length by rw [HNX.out, List.length_append, HLL.out])
      clear hq6 hg6 hc6
      go_wp2_with fail
      go_roundg (many - K)
      case measure => have := HKK.out; omega
      case rel =>
        refine ⟨K, g', c', by omega, rfl, by go_num, by rw [HLN.out], by rw [HLN.out]; exact HQ6.out, HG6.out, HC6.out, by rw [HLN.out]; omega⟩
    · have d0 : decide (L < many) = false := by simpa using hlt
      have hLc := HQ.out.le
      have hLm : many ≤ L := by omega
      go_wp2_with fail
      go_ret2
      refine ⟨⟨g, c, k, rfl, by omega, by rw [HBB.out, HLL.out]; exact hLm, fun j hj => ?_⟩, HC.out⟩
      rw [HBB.out] at hj
      simp only [HBB.out]
      rw [List.length_take] at hj
      have hjB : j < B.length := by omega
      have := HQ.out.at_ _ _ (u8V_at hjB)
      rw [Nat.zero_add, this, at0_lt_of hjB, List.getElem_take]
end Go.Proofs.YtilacamhjibneaaDoor

/- Factors, walked. Its conditions are its premises. -/
namespace Go.Proofs.YtilacamhjibneaaDoor
open Go.RowKit Go.Maps

theorem law9 : Keyed Tryd.prog 9 := string_keyed Tryd.underlying9
def kl (l : List Nat) : Lit := .string (str l).data.toList
theorem keyS {l : List Nat} (hl : l.length ≤ 1000) : keyOf Tryd.prog 9 (.string (str l)) = some (kl l) := WideMaps.keyOf_string_mk Tryd.underlying9 (by rw [str_size]; unfold maxLen; omega)
theorem chr_inj {c d : Nat} (hc : c < 100) (hd : d < 100) (h : chr c = chr d) : c = d := by
  have := congrArg UInt8.toNat h
  unfold chr at this
  simp at this
  omega
theorem kl_inj {l m : List Nat} (hl : ∀ c ∈ l, c < 100) (hm : ∀ c ∈ m, c < 100) (h : kl l = kl m) : l = m := by
  unfold kl str at h
  injection h with h
  simp only at h
  induction l generalizing m with
  | nil => cases m with
    | nil => rfl
    | cons d m => simp at h
  | cons c l ih => cases m with
    | nil => simp at h
    | cons d m =>
      simp only [List.map_cons, List.cons.injEq] at h
      rw [chr_inj (hl c (by simp)) (hm d (by simp)) h.1, ih (fun x hx => hl x (by simp [hx])) (fun x hx => hm x (by simp [hx])) h.2]
/-- Those that are different, in the order in which they first come. -/
def dis (S : List (List Nat)) : List (List Nat) := S.foldl (fun D l => if l ∈ D then D else D ++ [l]) []
theorem dis_snoc (S : List (List Nat)) (l : List Nat) : dis (S ++ [l]) = if l ∈ dis S then dis S else dis S ++ [l] := by
  unfold dis
  rw [List.foldl_append]
  rfl
def setW (S : List (List Nat)) : DataW Unit := S.foldl (fun d l => d.put (kl l) (.lit (.bool true))) (.map [])
theorem setW_snoc (S : List (List Nat)) (l : List Nat) : setW (S ++ [l]) = (setW S).put (kl l) (.lit (.bool true)) := by
  unfold setW
  rw [List.foldl_append]
  rfl
def Lets (S : List (List Nat)) : Prop := ∀ l ∈ S, ∀ c ∈ l, c < 100
theorem setW_inv : ∀ (n : Nat) (S : List (List Nat)), S.length = n → Lets S → Tidy (setW S) ∧ Maps.size (setW S) = (dis S).length ∧ (∀ l, (∀ c ∈ l, c < 100) → has (setW S) (kl l) = decide (l ∈ dis S)) := by
  intro n
  induction n with
  | zero =>
    intro S hS _
    obtain rfl := List.length_eq_zero_iff.1 hS
    exact ⟨tidy_empty, rfl, fun l _ => rfl⟩
  | succ n ih =>
    intro S hS hL
    obtain ⟨T, x, rfl⟩ : ∃ T x, S = T ++ [x] := ⟨S.dropLast, S.getLast (by intro h; simp [h] at hS), (List.dropLast_concat_getLast _).symm⟩
    have hx := hL x (by simp)
    obtain ⟨h1, h2, h3⟩ := ih T (by simpa using hS) (fun l hl => hL l (by simp [hl]))
    rw [setW_snoc, dis_snoc]
    refine ⟨h1.put (by unfold kl; trivial) _, ?_, fun l hl => ?_⟩
    · rw [size_put h1, h3 x hx, h2]
      by_cases h : x ∈ dis T
      · rw [if_pos (by simpa using h), if_pos h]
      · rw [if_neg (by simpa using h), if_neg h, List.length_append]
        rfl
    · by_cases hlx : l = x
      · subst hlx
        rw [has_put_same h1.isMap (by unfold kl; trivial)]
        by_cases h : l ∈ dis T
        · rw [if_pos h]; simp [h]
        · rw [if_neg h]; simp
      · rw [has_put_other (fun e => hlx (kl_inj hl hx e)), h3 l hl]
        by_cases h : x ∈ dis T
        · rw [if_pos h]
        · rw [if_neg h]; simp [hlx]

/-- Block b is a map in which the strings S have been seen. -/
def SeenS (w : World) (b : Nat) (S : List (List Nat)) : Prop := w.ownsMap (H := Unit) Tryd.prog 9 (plainElem Tryd.prog 4) b S.length (setW S)
theorem SeenS.lt {w : World} {b : Nat} {S : List (List Nat)} (h : SeenS w b S) : b < w.heap.size := World.ownsMap.lt h
theorem SeenS.put {w : World} {b : Nat} {S : List (List Nat)} (h : SeenS w b S) (hS : S.length < 1000000) {l : List Nat} (hl : l.length ≤ 1000) :
    ∃ w', (Instr.mapUpdate 57 (.map (some b)) (.string (str l)) (.bool true)).run Tryd.prog w = .ok () w' ∧ SeenS w' b (S ++ [l]) ∧ Chg (fun k => k = b) w w' := by
  obtain ⟨w', hrun, ho, hg⟩ := World.ownsMap.update h law9 Tryd.underlying57 (by unfold maxLen; omega) (keyS hl) (plainElem_bool (H := Unit) Tryd.underlying4 true)
  refine ⟨w', hrun, ?_, hg.os, hg.tape, hg.output, hg.size, fun k hk hn => hg.block k hk (by intro e; injection e with e; exact hn e)⟩
  unfold SeenS
  rw [setW_snoc]
  simpa using ho
theorem wpList_seenS {w : World} {ops : Array Oper} {rest : List Oper} {o : Oper} {a : Act} {Q : Exit → Act → World → Prop} (hg : o.guard = none) (m x v : Operand) (hop : o.op = Op.mapUpdate 57 m x v ∨ o.op = Op.insert 57 m x v)
    (b : Nat) (S : List (List Nat)) (hm : a.eval m = .map (some b)) (h : SeenS w b S) (hS : S.length < 1000000) (l : List Nat) (hl : l.length ≤ 1000) (hx : a.eval x = .string (str l)) (hv : a.eval v = .bool true)
    (hK : ∀ w', SeenS w' b (S ++ [l]) → Chg (fun k => k = b) w w' → wpList Tryd.prog ops Q rest (a.put o.dst undef) w') : wpList Tryd.prog ops Q (o :: rest) a w := by
  refine wpList_plain hg fun K' hK' => ?_
  obtain ⟨w', hrun, r1, r2⟩ := h.put hS hl
  unfold Oper.wp
  rcases hop with hop | hop <;>
  · simp [execOp, hop, hm, hx, hv, hrun, Result.andThen]
    exact hK' _ _ (hK w' r1 r2)

/-- The strings of a length in l, the first n of them. -/
def win (l : List Nat) (len n : Nat) : List (List Nat) := (List.range n).map fun i => (l.drop i).take len
theorem win_next (l : List Nat) (len n : Nat) : win l len (n + 1) = win l len n ++ [(l.drop n).take len] := by simp [win, List.range_succ]
theorem win_len (l : List Nat) (len n : Nat) : (win l len n).length = n := by simp [win]
theorem win_lets {l : List Nat} (hl : ∀ c ∈ l, c < 100) (len n : Nat) : Lets (win l len n) := fun x hx c hc => by
  unfold win at hx
  obtain ⟨i, _, rfl⟩ := List.mem_map.1 hx
  exact hl c (List.mem_of_mem_drop (List.mem_of_mem_take hc))
theorem back_str {w : World} {g i len cap : Nat} {l : List Nat} (h : U8At w g 0 l) (hi : i + len ≤ l.length) (hc : ∀ c ∈ l, c < 100) : (convert 52 9 (.slice (some ⟨g, i, none⟩) len cap)).run Tryd.prog w = .ok (.string (str ((l.drop i).take len))) w := by
  have hlen : (((l.drop i).take len).map chr).length = len := by simp; omega
  have := run_convert_bytes_back (P := Tryd.prog) w 52 9 5 ⟨g, i, none⟩ cap (((l.drop i).take len).map chr) Tryd.underlying52 Tryd.underlying5 Tryd.underlying9 (fun j hj => by
    rw [hlen] at hj
    have h1 := h (i + j) (by omega)
    rw [add_plain]
    rw [Nat.zero_add] at h1
    rw [h1]
    have := hc _ (List.getElem_mem (show i + j < l.length by omega))
    simp [chr]
    omega)
  rw [hlen] at this
  exact this
end Go.Proofs.YtilacamhjibneaaDoor

/- Factors, walked. Its conditions are its premises. -/
namespace Go.Proofs.YtilacamhjibneaaDoor
open Go.RowKit Go.Maps

theorem U8At.chg {S : Nat → Prop} {w w' : World} {b off : Nat} {l : List Nat} (h : U8At w b off l) (hc : Chg S w w') (hn : ¬ S b) : U8At w' b off l := fun k hk => hc.cell_some (h k hk) hn
def facV (l : List Nat) (len : Nat) : Nat := (dis (win l len (l.length + 1 - len))).length

set_option maxRecDepth 100000 in
set_option maxHeartbeats 1000000 in
theorem factors_ok (V : List (List Nat)) (hV : WF V) (i : Nat) (hi : i < V.length) (hbud : budV V i = true) (hfed : Fed V i 100000) (len : Nat) (hl1 : 1 ≤ len) (hl10 : len ≤ 10) (b off cap : Nat) (w : World) (hv : VAt w b off V) :
    Calls Tryd.prog 17 #[.slice (some ⟨b, off, none⟩) V.length cap, .string (str [i]), .int .i64 (len : Int)] w fun e w' => (∃ K, e = .returned (.tuple #[.int .i64 (facV ((bg V i K).take 100000) len : Int), .int .i64 0]) ∧ 100000 ≤ (bg V i K).length) ∧ Chg (fun _ => False) w w' := by
  have hn6 := hV.le
  have hmm := @run_makeMap Tryd.prog
  have HF := Lib.hid (first_ok V hV i hi hbud 100000 (Nat.le_refl _) hfed b off cap w hv)
  have HBL := Lib.hid (bg_lt hV i)
  obtain ⟨bs, hbs⟩ : ∃ bs, str [i] = bs := ⟨_, rfl⟩
  rw [hbs] at HF ⊢
  clear hv hV hbs hbud hfed
  go_enter Tryd.func17, Tryd.ntmps17
  go_wp2_with fail
  refine HF.out.mono ?_
  rintro e w1 ⟨⟨g, c, K, rfl, hcap, hK, hu⟩, hc1⟩
  obtain ⟨l, hl⟩ : ∃ l, (bg V i K).take 100000 = l := ⟨_, rfl⟩
  rw [hl] at hu
  have hlen : l.length = 100000 := by rw [← hl, List.length_take]; omega
  have HLT : Hid (∀ c ∈ l, c < 100) := Lib.hid (fun c hc => by have := HBL.out K c (by rw [← hl] at hc; exact List.mem_of_mem_take hc); omega)
  have HL := Lib.hid hl; have HLEN := Lib.hid hlen; have HKK := Lib.hid hK
  have HU0 := Lib.hid (hu.chg ((Chg.refl (fun _ => False) w1).alloc (.map #[] 0)) (fun x => x)); have HC0 := Lib.hid (hc1.trans ((Chg.refl (fun _ => False) w1).alloc (.map #[] 0)) (fun _ x => x.elim))
  obtain ⟨mb, hmb⟩ : ∃ mb, w1.heap.size = mb := ⟨_, rfl⟩
  have HGM := Lib.hid (show g < mb by
    have := World.cell_lt (hu 0 (by omega))
    rw [← hmb]
    exact this)
  have HMW := Lib.hid (show w.heap.size ≤ mb by rw [← hmb]; exact hc1.size)
  have HS0 : Hid (SeenS (w1.alloc (.map #[] 0)) mb (win l len 0)) := Lib.hid (by
    have := World.ownsMap_made (H := Unit) w1 Tryd.prog 9 (plainElem Tryd.prog 4)
    rw [hmb] at this
    exact this)
  clear hu hc1 hl hlen hK
  have d1 : decide ((len : Int) < 1) = false := by simp; omega
  have d2 : decide ((10 : Int) < (len : Int)) = false := by simp; omega
  go_wp2_with fail
  clear hmm hmb d1 d2
  generalize w1.alloc (.map #[] 0) = W0 at HU0 HC0 HS0 ⊢
  go_loopg [11] 100001 (fun gm jv wr => ∃ j : Nat, j + len ≤ 100001 ∧ gm = 100001 - j ∧ jv = .int .i64 j ∧ U8At wr g 0 l ∧ SeenS wr mb (win l len j) ∧ Chg (fun _ => False) w wr)
  case atStart => exact ⟨0, by omega, rfl, rfl, HU0.out, HS0.out, HC0.out⟩
  case round =>
    clear HU0 HS0 HC0
    obtain ⟨j, hj, rfl, rfl, hu, hs, hc⟩ := hrel
    have HU := Lib.hid hu; have HS := Lib.hid hs; have HC := Lib.hid hc
    clear hu hs hc
    by_cases hjl : j + len ≤ 100000
    · have d1 : decide ((j : Int) + (len : Int) ≤ 100000) = true := by simp; omega
      have hcv := fun cap' => back_str (cap := cap') (i := j) (len := len) HU.out (by rw [HLEN.out]; exact hjl) HLT.out
      have HWN := Lib.hid (win_next l len j)
      have HXL := Lib.hid (show ((l.drop j).take len).length ≤ 1000 by rw [List.length_take]; omega)
      have HWL := Lib.hid (show (win l len j).length < 1000000 by rw [win_len]; omega)
      obtain ⟨x, hx⟩ : ∃ x, (l.drop j).take len = x := ⟨_, rfl⟩
      simp only [hx] at hcv
      rw [hx] at HWN HXL
      clear hx
      obtain ⟨w6, hput, hs6, hc6⟩ := HS.out.put HWL.out HXL.out
      have HS6 := Lib.hid hs6
      have HU6 := Lib.hid (HU.out.chg hc6 (show ¬ g = mb by have := HGM.out; omega))
      have HC6 := Lib.hid (HC.out.trans hc6 (fun k hk => .inr (by rw [hk]; exact HMW.out)))
      clear hs6 hc6
      go_wp2_with fail
      go_roundg (100001 - (j + 1))
      case measure => omega
      case rel => exact ⟨j + 1, by omega, rfl, by go_num, HU6.out, by rw [HWN.out]; exact HS6.out, HC6.out⟩
    · have hje : j = l.length + 1 - len := by have := HLEN.out; omega
      have d1 : decide ((j : Int) + (len : Int) ≤ 100000) = false := by simp; omega
      have HSZ := Lib.hid (setW_inv _ _ rfl (win_lets HLT.out len j)).2.1
      have HJE := Lib.hid hje
      clear hje
      go_wp2_with (at_len; refine wpList_len_own _ rfl _ 57 rfl 9 4 Tryd.underlying57 _ mb _ _ rfl HS.out ?_)
      rw [HSZ.out]
      go_wp2_with fail
      go_ret2
      refine ⟨⟨K, ?_, HKK.out⟩, HC.out⟩
      rw [HL.out]
      unfold facV
      rw [← HJE.out]
      rfl
end Go.Proofs.YtilacamhjibneaaDoor

/- What alive looks at: plain facts; the same numbers, walked. -/
namespace Go.Proofs.YtilacamhjibneaaDoor
open Go.RowKit

def fib : List (List Nat) := [[0, 1], [0]]
def pow2 : List (List Nat) := [[0, 1], [1]]
def thue : List (List Nat) := [[0, 1], [1, 0]]
theorem wf_fib : WF fib := ⟨by decide, by decide, by decide⟩
theorem wf_pow2 : WF pow2 := ⟨by decide, by decide, by decide⟩
theorem wf_thue : WF thue := ⟨by decide, by decide, by decide⟩

theorem livF_fib : ∀ y, livF fib y = [true, true]
  | 0 => by decide
  | y + 1 => by
    show lvF fib (livF fib y) fib.length = _
    rw [livF_fib y]
    decide
theorem maps_fib : MapsAt fib := fun k t fb g cap w ht hl hfb hbl => by
  have hlive : ∀ c ∈ t, atB (livV fib k) c = true := fun c hc => by
    have := ht c hc
    unfold livV
    rw [livF_fib]
    have h2 : c < 2 := this
    match c, h2 with
    | 0, _ => rfl
    | 1, _ => rfl
  have hf : (t.filter fun c => atB (livV fib k) c) = t := List.filter_eq_self.2 hlive
  rw [hf]
  have hlen : (livV fib k).length = fib.length := livF_len fib _
  exact map_same (livV fib k) t fb g cap w (by rw [hlen]; exact ht) (by rw [hlen]; decide) hl hlive (by rw [hlen]; exact hfb) hbl
theorem grow_fib : growV fib [0] 3 = .tuple #[.string (str [0, 1, 0, 0, 1]), .int .i64 0] := by
  unfold growV
  rw [if_pos (by decide +kernel)]
  have : grw fib 3 [0] = [0, 1, 0, 0, 1] := by decide +kernel
  rw [this]
theorem fits_fib : sumV (agedF fib [0] 3) ≤ 100000 → Fits fib 3 [0] := fun _ => by
  unfold Fits Fits Fits Fits
  decide +kernel
theorem kind_pow2 : kindV pow2 [0] = .tuple #[.int .i64 2, .int .i64 1, .int .i64 0] := by
  unfold kindV
  have h1 : kindB pow2 [0] = 2 := by decide +kernel
  have h2 : kindM pow2 [0] = 2 := by decide +kernel
  rw [h1, h2, if_pos rfl]
  rfl
theorem rec_pow2 : recV pow2 = [2, -1] := by decide +kernel
theorem bud_thue : budV thue 0 = true := by decide +kernel

/-- Two letters of a pair are different. -/
def Paired (l : List Nat) : Prop := ∃ m : List Nat, l = m.flatMap (fun x => if x = 0 then [0, 1] else [1, 0])
theorem part_thue (c : Nat) (h : c < 2) : part thue c = if c = 0 then [0, 1] else [1, 0] := by
  match c, h with
  | 0, _ => rfl
  | 1, _ => rfl
theorem bg_thue : ∀ k, (bg thue 0 k).length = 2 * (k + 1) ∧ Paired (bg thue 0 k)
  | 0 => ⟨rfl, [0], rfl⟩
  | k + 1 => by
    obtain ⟨h1, m, h2⟩ := bg_thue k
    have hlt : at0 (bg thue 0 k) (k + 1) < 2 := bg_lt wf_thue 0 k _ (at0_mem (by omega))
    rw [bg, part_thue _ hlt]
    refine ⟨?_, m ++ [at0 (bg thue 0 k) (k + 1)], ?_⟩
    · rw [List.length_append, h1]
      split <;> simp <;> omega
    · rw [List.flatMap_append, ← h2]
      simp
theorem fed_thue (many : Nat) : Fed thue 0 many := fun k _ => by
  rw [(bg_thue k).1]
  omega
theorem bg_prefix (V : List (List Nat)) (i : Nat) (j : Nat) : ∀ k, ∃ m, bg V i (j + k) = bg V i j ++ m
  | 0 => ⟨[], by simp⟩
  | k + 1 => by
    obtain ⟨m, h⟩ := bg_prefix V i j k
    refine ⟨m ++ part V (at0 (bg V i (j + k)) (j + k + 1)), ?_⟩
    rw [show j + (k + 1) = (j + k) + 1 from rfl, bg, ← List.append_assoc, ← h]

theorem nodup_len {α : Type} [DecidableEq α] : ∀ (l m : List α), l.Nodup → (∀ x ∈ l, x ∈ m) → l.length ≤ m.length
  | [], m, _, _ => Nat.zero_le _
  | x :: l, m, hn, hs => by
    have hx := hs x (by simp)
    have h1 := nodup_len l (m.erase x) (List.nodup_cons.1 hn).2 (fun y hy => by
      have hne : y ≠ x := fun e => (List.nodup_cons.1 hn).1 (e ▸ hy)
      exact (List.mem_erase_of_ne hne).2 (hs y (by simp [hy])))
    have h2 := List.length_erase_of_mem hx
    have h3 : 0 < m.length := List.length_pos_of_mem hx
    simp only [List.length_cons]
    omega
theorem dis_inv : ∀ (n : Nat) (S : List (List Nat)), S.length = n → (dis S).Nodup ∧ ∀ x, x ∈ dis S ↔ x ∈ S := by
  intro n
  induction n with
  | zero =>
    intro S hS
    obtain rfl := List.length_eq_zero_iff.1 hS
    exact ⟨List.nodup_nil, fun x => Iff.rfl⟩
  | succ n ih =>
    intro S hS
    obtain ⟨T, x, rfl⟩ : ∃ T x, S = T ++ [x] := ⟨S.dropLast, S.getLast (by intro h; simp [h] at hS), (List.dropLast_concat_getLast _).symm⟩
    obtain ⟨h1, h2⟩ := ih T (by simpa using hS)
    rw [dis_snoc]
    by_cases h : x ∈ dis T
    · rw [if_pos h]
      refine ⟨h1, fun y => ?_⟩
      rw [h2 y, List.mem_append, List.mem_singleton]
      exact ⟨.inl, fun hy => hy.elim id (fun e => e ▸ (h2 x).1 h)⟩
    · rw [if_neg h]
      refine ⟨List.nodup_append.2 ⟨h1, by simp, fun a ha b hb e => ?_⟩, fun y => ?_⟩
      · simp at hb
        subst hb
        subst e
        exact h ha
      · rw [List.mem_append, List.mem_append, h2 y]
def six : List (List Nat) := [[0, 1, 1], [1, 1, 0], [1, 0, 1], [0, 1, 0], [1, 0, 0], [0, 0, 1]]
theorem three_of_pairs : ∀ (m : List Nat) (i : Nat), i + 3 ≤ (m.flatMap (fun x => if x = 0 then [0, 1] else [1, 0])).length → ((m.flatMap (fun x => if x = 0 then [0, 1] else [1, 0])).drop i).take 3 ∈ six
  | [], i, h => by simp at h
  | x :: m, i + 2, h => by
    rw [List.flatMap_cons] at h ⊢
    have hl : ((if x = 0 then [0, 1] else [1, 0]) : List Nat).length = 2 := by split <;> rfl
    have hd : (((if x = 0 then [0, 1] else [1, 0]) : List Nat) ++ m.flatMap (fun x => if x = 0 then [0, 1] else [1, 0])).drop (i + 2) = (m.flatMap (fun x => if x = 0 then [0, 1] else [1, 0])).drop i := by
      rw [List.drop_append, List.drop_of_length_le (by omega), hl]
      simp
    rw [hd]
    exact three_of_pairs m i (by rw [List.length_append, hl] at h; omega)
  | [x], 0, h => by
    exfalso
    rw [List.flatMap_cons] at h
    have hl : ((if x = 0 then [0, 1] else [1, 0]) : List Nat).length = 2 := by split <;> rfl
    simp [hl] at h
  | x :: y :: m, 0, h => by
    simp only [List.flatMap_cons, List.drop_zero]
    by_cases hx : x = 0 <;> by_cases hy : y = 0 <;> simp [hx, hy, six]
  | [x], 1, h => by
    exfalso
    rw [List.flatMap_cons] at h
    have hl : ((if x = 0 then [0, 1] else [1, 0]) : List Nat).length = 2 := by split <;> rfl
    simp [hl] at h
  | x :: y :: m, 1, h => by
    simp only [List.flatMap_cons]
    by_cases hx : x = 0 <;> by_cases hy : y = 0 <;> simp [hx, hy, six]
theorem fac_thue (K : Nat) (hK : 100000 ≤ (bg thue 0 K).length) : facV ((bg thue 0 K).take 100000) 3 = 6 := by
  obtain ⟨hlen, m, hm⟩ := bg_thue K
  obtain ⟨l, hl⟩ : ∃ l, (bg thue 0 K).take 100000 = l := ⟨_, rfl⟩
  have hll : l.length = 100000 := by rw [← hl, List.length_take]; omega
  rw [hl]
  unfold facV
  obtain ⟨hnd, hmem⟩ := dis_inv _ (win l 3 (l.length + 1 - 3)) rfl
  have hup := nodup_len _ six hnd (fun x hx => by
    obtain ⟨i, hi, rfl⟩ := List.mem_map.1 ((hmem x).1 hx)
    have hi' : i < l.length + 1 - 3 := List.mem_range.1 hi
    have e : (l.drop i).take 3 = ((bg thue 0 K).drop i).take 3 := by
      rw [← hl, List.drop_take, List.take_take, Nat.min_eq_left (by omega)]
    rw [e, hm]
    exact three_of_pairs m i (by rw [← hm]; omega))
  have h12 : ∃ r, l = bg thue 0 5 ++ r := by
    obtain ⟨r, hr⟩ := bg_prefix thue 0 5 (K - 5)
    rw [show 5 + (K - 5) = K by omega] at hr
    have h5 : (bg thue 0 5).length = 12 := (bg_thue 5).1
    refine ⟨r.take (100000 - 12), ?_⟩
    rw [← hl, hr, List.take_append, h5, List.take_of_length_le (by omega)]
  obtain ⟨r, hr⟩ := h12
  have hlow := nodup_len six (dis (win l 3 (l.length + 1 - 3))) (by decide) (fun x hx => by
    rw [hmem x]
    have h9 : x ∈ (List.range 10).map (fun i => ((bg thue 0 5).drop i).take 3) := by
      revert x
      decide +kernel
    obtain ⟨i, hi, rfl⟩ := List.mem_map.1 h9
    have hi' : i < 10 := List.mem_range.1 hi
    refine List.mem_map.2 ⟨i, List.mem_range.2 (by omega), ?_⟩
    have h5 : (bg thue 0 5).length = 12 := (bg_thue 5).1
    rw [hr, List.drop_append, List.take_append, List.length_drop, h5, show 3 - (12 - i) = 0 by omega, List.take_zero, List.append_nil])
  have : six.length = 6 := rfl
  omega

/-- A slice of whole numbers, or none. -/
def SlI (w : World) (v : Value) (X : List Int) : Prop := ∃ ao g off c, v = .slice ao X.length c ∧ (X = [] ∨ ao = some ⟨g, off, none⟩) ∧ IntsAt w g off X
def samI (X Y : List Int) : Nat → Bool
  | 0 => true
  | k + 1 => samI X Y k && decide (X[k]?.getD 0 = Y[k]?.getD 0)
theorem samI_bad {X Y : List Int} {j : Nat} (h : ¬ X[j]?.getD 0 = Y[j]?.getD 0) : ∀ k, j < k → samI X Y k = false
  | 0, hk => by omega
  | k + 1, hk => by
    rw [samI]
    by_cases hj : j = k
    · subst hj; rw [decide_eq_false h, Bool.and_false]
    · rw [samI_bad h k (by omega), Bool.false_and]
theorem samI_iff {X Y : List Int} (hl : X.length = Y.length) : samI X Y X.length = decide (X = Y) := by
  have h1 : ∀ k, samI X Y k = true ↔ ∀ j, j < k → X[j]?.getD 0 = Y[j]?.getD 0 := by
    intro k
    induction k with
    | zero => simp [samI]
    | succ k ih =>
      rw [samI, Bool.and_eq_true, ih, decide_eq_true_eq]
      exact ⟨fun ⟨a, b⟩ j hj => if h : j = k then h ▸ b else a j (by omega), fun h => ⟨fun j hj => h j (by omega), h k (by omega)⟩⟩
  by_cases hxy : X = Y
  · subst hxy
    rw [decide_eq_true rfl, h1]
    exact fun _ _ => rfl
  · rw [decide_eq_false hxy]
    cases hs : samI X Y X.length with
    | false => rfl
    | true =>
      exfalso
      apply hxy
      apply List.ext_getElem hl
      intro j hj hj'
      have := (h1 _).1 hs j hj
      simpa [List.getElem?_eq_getElem hj, List.getElem?_eq_getElem hj'] using this

set_option maxRecDepth 100000 in
set_option maxHeartbeats 1000000 in
theorem same_any (X Y : List Int) (v u : Value) (w : World) (hX : SlI w v X) (hY : SlI w u Y) (hXl : X.length ≤ 1000000) (hYl : Y.length ≤ 1000000) :
    Calls Tryd.prog 21 #[v, u] w fun e w' => e = .returned (.bool (decide (X = Y))) ∧ ∃ q, w' = w.drewN q := by
  obtain ⟨ao, g, off, c, rfl, ha, hI⟩ := hX
  obtain ⟨bo, gb, boff, d, rfl, hb, hJ⟩ := hY
  by_cases hl : X.length = Y.length
  · have HS := Lib.hid (samI_iff hl)
    have HB := Lib.hid (fun j (h : ¬ X[j]?.getD 0 = Y[j]?.getD 0) => samI_bad h)
    have HI := Lib.hid hI; have HJ := Lib.hid hJ; have HA := Lib.hid ha; have HBo := Lib.hid hb
    obtain ⟨n, hn⟩ : ∃ n, X.length = n := ⟨_, rfl⟩
    have HN := Lib.hid hn; have HM := Lib.hid (show Y.length = n by omega)
    rw [← hl]
    rw [hn] at hXl ⊢
    clear hl hn hI hJ ha hb hYl
    go_enter Tryd.func21, Tryd.ntmps21
    go_wp2_with fail
    go_loopg [5] n (fun gm jv wr => ∃ j q : Nat, j ≤ n ∧ gm = n - j ∧ jv = .int .i64 j ∧ samI X Y j = true ∧ wr = w.drewN q)
    case atStart => exact ⟨0, 0, by omega, by omega, rfl, rfl, rfl⟩
    case round =>
      obtain ⟨j, q, hj, rfl, rfl, hs, rfl⟩ := hrel
      have HSJ := Lib.hid hs
      clear hs
      by_cases hjn : j < n
      · have d0 : decide (j < n) = true := by simpa using hjn
        obtain rfl := HA.out.resolve_left (fun e => by have := HN.out; rw [e] at this; simp at this; omega)
        obtain rfl := HBo.out.resolve_left (fun e => by have := HM.out; rw [e] at this; simp at this; omega)
        have hjX : j < X.length := by rw [HN.out]; exact hjn
        have hjY : j < Y.length := by rw [HM.out]; exact hjn
        have x1 := HI.out j hjX
        have y1 := HJ.out j hjY
        have HXJ : Hid (X[j]?.getD 0 = X[j]) := Lib.hid (by rw [List.getElem?_eq_getElem hjX]; rfl)
        have HYJ : Hid (Y[j]?.getD 0 = Y[j]) := Lib.hid (by rw [List.getElem?_eq_getElem hjY]; rfl)
        obtain ⟨x, hx⟩ : ∃ x, X[j] = x := ⟨_, rfl⟩
        obtain ⟨y, hy⟩ : ∃ y, Y[j] = y := ⟨_, rfl⟩
        rw [hx] at x1 HXJ
        rw [hy] at y1 HYJ
        have HSN := Lib.hid (show samI X Y (j + 1) = (samI X Y j && decide (X[j]?.getD 0 = Y[j]?.getD 0)) from rfl)
        rw [HXJ.out, HYJ.out, HSJ.out] at HSN
        have HBJ := Lib.hid (HB.out j)
        rw [HXJ.out, HYJ.out] at HBJ
        clear hx hy hjX hjY
        by_cases hxy : x = y
        · rw [decide_eq_true hxy] at HSN
          subst hxy
          go_wp2_with fail
          go_quiet (fail)
          go_wp2_with fail
          go_roundg (n - (j + 1))
          case measure => omega
          case rel => exact ⟨j + 1, q + nq, by omega, rfl, by go_num, HSN.out, by simp⟩
        · have HSF := Lib.hid (HBJ.out hxy n hjn)
          go_wp2_with fail
          go_quiet (fail)
          go_wp2_with fail
          go_ret
          exact ⟨by rw [← HS.out, HN.out, HSF.out]; rfl, q + nq, by simp⟩
      · obtain rfl : j = n := by omega
        go_wp2_with fail
        go_ret
        exact ⟨by rw [← HS.out, HN.out, HSJ.out]; rfl, q, rfl⟩
  · have HF := Lib.hid (show decide (X = Y) = false from decide_eq_false (fun e => hl (by rw [e])))
    have hl' : ¬ (X.length : Int) = (Y.length : Int) := by omega
    clear hI hJ ha hb
    go_enter Tryd.func21, Tryd.ntmps21
    go_wp2_with fail
    go_ret
    exact ⟨by rw [HF.out]; rfl, 0, rfl⟩
end Go.Proofs.YtilacamhjibneaaDoor

/- alive, walked. No condition. -/
namespace Go.Proofs.YtilacamhjibneaaDoor
open Go.RowKit

def bA : ByteArray := ⟨#[97]⟩
def bB : ByteArray := ⟨#[98]⟩
def bAB : ByteArray := ⟨#[97, 98]⟩
def bBA : ByteArray := ⟨#[98, 97]⟩
theorem str_A : str [0] = ⟨#[97]⟩ := by decide +kernel
theorem str_B : str [1] = ⟨#[98]⟩ := by decide +kernel
theorem str_AB : str [0, 1] = ⟨#[97, 98]⟩ := by decide +kernel
theorem str_BA : str [1, 0] = ⟨#[98, 97]⟩ := by decide +kernel
theorem str_fib : str [0, 1, 0, 0, 1] = ⟨#[97, 98, 97, 97, 98]⟩ := by decide +kernel
theorem vat_two (w : World) (p q : List Nat) : VAt (w.alloc (.cells #[.string (str p), .string (str q)] 9)) w.heap.size 0 [p, q] := fun k hk => by
  have h := Blk.new w #[.string (str p), .string (str q)] 9
  match k, hk with
  | 0, _ => exact h.cell_some (i := 0) rfl
  | 1, _ => exact h.cell_some (i := 1) rfl
theorem alive1 (w : World) : Calls Tryd.prog 30 #[.slice (some ⟨w.heap.size, 0, none⟩) 2 2, .string ⟨#[97]⟩, .int .i64 3] (w.alloc (.cells #[.string ⟨#[97, 98]⟩, .string ⟨#[97]⟩] 9)) fun e w' =>
    e = .returned (.tuple #[.string ⟨#[97, 98, 97, 97, 98]⟩, .int .i64 0]) ∧ Chg (fun _ => False) (w.alloc (.cells #[.string ⟨#[97, 98]⟩, .string ⟨#[97]⟩] 9)) w' := by
  have hv := vat_two w [0, 1] [0]
  have h := grow_any fib wf_fib [0] (by decide) (by decide) 3 (by decide) maps_fib fits_fib w.heap.size 0 2 _ hv
  rw [grow_fib, str_A, str_AB, str_fib] at h
  exact h
theorem alive2 (w : World) : Calls Tryd.prog 24 #[.slice (some ⟨w.heap.size, 0, none⟩) 2 2, .string ⟨#[97]⟩] (w.alloc (.cells #[.string ⟨#[97, 98]⟩, .string ⟨#[98]⟩] 9)) fun e w' =>
    e = .returned (.tuple #[.int .i64 2, .int .i64 1, .int .i64 0]) ∧ Chg (fun _ => False) (w.alloc (.cells #[.string ⟨#[97, 98]⟩, .string ⟨#[98]⟩] 9)) w' := by
  have hv := vat_two w [0, 1] [1]
  have h := kind_ok pow2 wf_pow2 [0] (by decide) (by decide) w.heap.size 0 2 _ hv
  rw [kind_pow2, str_A, str_AB, str_B] at h
  exact h
theorem alive3 (w : World) : Calls Tryd.prog 19 #[.slice (some ⟨w.heap.size, 0, none⟩) 2 2, .string ⟨#[97]⟩] (w.alloc (.cells #[.string ⟨#[97, 98]⟩, .string ⟨#[98]⟩] 9)) fun e w' =>
    (∃ g c, e = .returned (.tuple #[.slice (some ⟨g, 0, none⟩) 2 c, .int .i64 0]) ∧ IntsAt w' g 0 [2, -1]) ∧ Chg (fun _ => False) (w.alloc (.cells #[.string ⟨#[97, 98]⟩, .string ⟨#[98]⟩] 9)) w' := by
  have hv := vat_two w [0, 1] [1]
  have h := recurrence_ok pow2 wf_pow2 [0] (by decide) (by decide) w.heap.size 0 2 _ hv
  rw [rec_pow2, str_A, str_AB, str_B] at h
  exact h.mono fun e w' ⟨⟨g, c, h1, h2, _⟩, h3⟩ => ⟨⟨g, c, h1, h2⟩, h3⟩
theorem alive4 (w : World) : Calls Tryd.prog 17 #[.slice (some ⟨w.heap.size, 0, none⟩) 2 2, .string ⟨#[97]⟩, .int .i64 3] (w.alloc (.cells #[.string ⟨#[97, 98]⟩, .string ⟨#[98, 97]⟩] 9)) fun e w' =>
    e = .returned (.tuple #[.int .i64 6, .int .i64 0]) ∧ Chg (fun _ => False) (w.alloc (.cells #[.string ⟨#[97, 98]⟩, .string ⟨#[98, 97]⟩] 9)) w' := by
  have hv := vat_two w [0, 1] [1, 0]
  have h := factors_ok thue wf_thue 0 (by decide) bud_thue (fed_thue _) 3 (by decide) (by decide) w.heap.size 0 2 _ hv
  rw [str_A, str_AB, str_BA] at h
  exact h.mono fun e w' ⟨⟨K, h1, h2⟩, h3⟩ => ⟨by rw [h1, fac_thue K h2]; rfl, h3⟩

set_option maxRecDepth 100000 in
set_option maxHeartbeats 1000000 in
theorem alive_any (w : World) : Calls Tryd.prog 16 #[] w fun e w' => e = .returned (.bool true) ∧ Chg (fun _ => False) w w' := by
  have HC1 := Lib.hid ((Chg.refl (fun _ => False) w).alloc (.cells #[.string ⟨#[97, 98]⟩, .string ⟨#[97]⟩] 9))
  go_enter Tryd.func16, Tryd.ntmps16
  go_wp2_with fail
  refine (alive1 w).mono ?_
  rintro e w1 ⟨rfl, hc1⟩
  have HD1 := Lib.hid (HC1.out.trans hc1 (fun _ x => x.elim))
  have HC2 := Lib.hid ((Chg.refl (fun _ => False) w1).alloc (.cells #[.string ⟨#[97, 98]⟩, .string ⟨#[98]⟩] 9))
  clear hc1
  go_wp2_with fail
  refine (alive2 w1).mono ?_
  rintro e w2 ⟨rfl, hc2⟩
  have HD2 := Lib.hid ((HD1.out.trans HC2.out (fun _ x => x.elim)).trans hc2 (fun _ x => x.elim))
  have HC3 := Lib.hid ((Chg.refl (fun _ => False) w2).alloc (.cells #[.string ⟨#[97, 98]⟩, .string ⟨#[98]⟩] 9))
  clear hc2
  go_wp2_with fail
  refine (alive3 w2).mono ?_
  rintro e w3 ⟨⟨g, c, rfl, hI⟩, hc3⟩
  have HD3 := Lib.hid ((HD2.out.trans HC3.out (fun _ x => x.elim)).trans hc3 (fun _ x => x.elim))
  have HC4 := Lib.hid ((Chg.refl (fun _ => False) w3).alloc (.cells #[.string ⟨#[97, 98]⟩, .string ⟨#[98, 97]⟩] 9))
  have HI := Lib.hid hI
  clear hc3 hI
  go_wp2_with fail
  refine (alive4 w3).mono ?_
  rintro e w4 ⟨rfl, hc4⟩
  have HD4 := Lib.hid ((HD3.out.trans HC4.out (fun _ x => x.elim)).trans hc4 (fun _ x => x.elim))
  have HI4 : Hid (IntsAt (w4.alloc (.cells #[.int .i64 2, .int .i64 (-1)] 3)) g 0 [2, -1]) := Lib.hid (fun k hk => ((Chg.refl (fun _ => False) w4).alloc _).cell_some (hc4.cell_some (HC4.out.cell_some (HI.out k hk) (fun x => x)) (fun x => x)) (fun x => x))
  have HJ4 : Hid (IntsAt (w4.alloc (.cells #[.int .i64 2, .int .i64 (-1)] 3)) w4.heap.size 0 [2, -1]) := Lib.hid (fun k hk => by
    have h := Blk.new w4 #[.int .i64 2, .int .i64 (-1)] 3
    match k, hk with
    | 0, _ => exact h.cell_some (i := 0) rfl
    | 1, _ => exact h.cell_some (i := 1) rfl)
  have HD5 := Lib.hid (HD4.out.alloc (.cells #[.int .i64 2, .int .i64 (-1)] 3))
  have HSM := Lib.hid (same_any [2, -1] [2, -1] (.slice (some ⟨g, 0, none⟩) 2 c) (.slice (some ⟨w4.heap.size, 0, none⟩) 2 2) _ ⟨_, g, 0, c, rfl, .inr rfl, HI4.out⟩ ⟨_, w4.heap.size, 0, 2, rfl, .inr rfl, HJ4.out⟩ (by decide) (by decide))
  clear hc4
  go_wp2_with fail
  refine HSM.out.mono ?_
  rintro e w5 ⟨rfl, q, rfl⟩
  go_wp2_with fail
  go_ret
  exact ⟨rfl, HD5.out.drewN q⟩
end Go.Proofs.YtilacamhjibneaaDoor
