/- The matrix of what grows, walked. Its conditions are its premises. -/
import Derived.Test.YtilacamhjibneaaDoorV20
set_option linter.unusedVariables false
namespace Go.Proofs.YtilacamhjibneaaDoor
open Go.RowKit

def bump (A : List (List Int)) (c i : Nat) : List (List Int) := A.set c ((row A c).set i (wrap64 (ent A c i + 1)))
def grP (p : List Nat) (i : Nat) (A : List (List Int)) : Nat → List (List Int)
  | 0 => A
  | k + 1 => bump (grP p i A k) (at0 p k) i
def grF (V : List (List Nat)) : Nat → List (List Int)
  | 0 => List.replicate V.length (List.replicate V.length 0)
  | i + 1 => grP (part V i) i (grF V i) (part V i).length
def growsM (V : List (List Nat)) : List (List Int) := grF V V.length

/-- A row of zeros is made and put in. -/
theorem IM.made {w0 w : World} {cb n N : Nat} {A : List (List Int)} {G : List (Nat × Nat)} (h : IM w0 w cb n N A G) (hlt : G.length < N) :
    IM w0 ((w.alloc (.cells (Array.replicate n (.int .i64 0)) 3)).setCell ⟨cb, G.length, none⟩ (.slice (some ⟨w.heap.size, 0, none⟩) n n)) cb n N (A ++ [List.replicate n 0]) (G ++ [(w.heap.size, n)]) := by
  have hcb := h.outer.lt
  refine h.next hlt (((Chg.refl (fun k => k = cb) w).alloc _).setCell (a := ⟨cb, G.length, none⟩) (.inl rfl) _) ?_ ?_ (Nat.le_refl _)
  · have := (h.outer.alloc (.cells (Array.replicate n (.int .i64 0)) 3)).set G.length (gv n (w.heap.size, n))
    rw [outG_set _ hlt] at this
    exact this
  · have := (made_ints n w).setOther (a := ⟨cb, G.length, none⟩) (by show cb ≠ w.heap.size; omega) (.slice (some ⟨w.heap.size, 0, none⟩) n n)
    refine QueB.of_blk (e := 3) ?_ 1 (by simp [ivL])
    simpa [ivL, nv] using this

set_option maxRecDepth 100000 in
set_option maxHeartbeats 1000000 in
theorem grows_any (V : List (List Nat)) (hV : WF V) (b off cap : Nat) (w : World) (hv : VAt w b off V) :
    Calls Tryd.prog 52 #[.slice (some ⟨b, off, none⟩) V.length cap] w fun e w' => (∃ cb G, e = .returned (.slice (some ⟨cb, 0, none⟩) V.length V.length) ∧ IM w w' cb V.length V.length (growsM V) G ∧ G.length = V.length) ∧ Chg (fun _ => False) w w' := by
  have hn6 := hV.le
  have hmk := make_mat V.length (by omega)
  have hmi := make_ints V.length (by omega)
  have HV := Lib.hid hv; have HWF := Lib.hid hV
  have HM0 := Lib.hid (made_mat V.length V.length w)
  obtain ⟨cb, hcb⟩ : ∃ cb, w.heap.size = cb := ⟨_, rfl⟩
  rw [hcb] at HM0
  clear hv hV
  go_enter Tryd.func52, Tryd.ntmps52
  go_wp2_with fail
  clear hcb hmk
  generalize w.alloc (.cells (Array.replicate V.length (.slice none 0 0)) 29) = W0 at HM0 ⊢
  go_loopg [13] V.length (fun gm iv wr => ∃ (i : Nat) (G : List (Nat × Nat)), i ≤ V.length ∧ gm = V.length - i ∧ iv = .int .i64 i ∧ G.length = i ∧ IM w wr cb V.length V.length (List.replicate i (List.replicate V.length 0)) G)
  case atStart => exact ⟨0, [], by omega, by omega, rfl, rfl, HM0.out⟩
  case round =>
    clear HM0
    obtain ⟨i, G, hi, rfl, rfl, hG, hM⟩ := hrel
    have HG := Lib.hid hG; have HM := Lib.hid hM
    clear hG hM
    by_cases hlt : i < V.length
    · have d0 : decide (i < V.length) = true := by simpa using hlt
      obtain ⟨rb, hrb⟩ : ∃ rb, wr.heap.size = rb := ⟨_, rfl⟩
      have HN := Lib.hid (HM.out.made (by rw [HG.out]; exact hlt))
      rw [HG.out, hrb] at HN
      have c1 := (HM.out.outer.alloc (.cells (Array.replicate V.length (.int .i64 0)) 3)).cell_some (outG_next (by rw [HG.out]; exact hlt))
      rw [HG.out] at c1
      have f1 := (HM.out.outer.alloc (.cells (Array.replicate V.length (.int .i64 0)) 3)).free i
      have HRS := Lib.hid (show List.replicate (i + 1) (List.replicate V.length (0 : Int)) = List.replicate i (List.replicate V.length 0) ++ [List.replicate V.length 0] from List.replicate_succ')
      go_wp2_with fail
      go_roundg (V.length - (i + 1))
      case measure => omega
      case rel => exact ⟨i + 1, G ++ [(rb, V.length)], by omega, rfl, by go_num, by rw [List.length_append, HG.out]; rfl, by rw [HRS.out]; exact HN.out⟩
    · obtain rfl : i = V.length := by omega
      have HM1 : Hid (IM w wr cb V.length V.length (grF V 0) G) := Lib.hid HM.out
      have HGL : Hid (G.length = V.length) := Lib.hid HG.out
      clear HM HG hmi
      go_wp2_with fail
      go_loopg [25] V.length (fun gm iv wr => ∃ i : Nat, i ≤ V.length ∧ gm = V.length - i ∧ iv = .int .i64 i ∧ IM w wr cb V.length V.length (grF V i) G)
      case atStart => exact ⟨0, by omega, by omega, rfl, HM1.out⟩
      case round =>
        clear HM1
        obtain ⟨i, hi, rfl, rfl, hM⟩ := hrel
        have HM := Lib.hid hM
        clear hM
        by_cases hlt : i < V.length
        · have d0 : decide (i < V.length) = true := by simpa using hlt
          have c0 := (HV.out.chg HM.out.chg (fun x => x)) i hlt
          rw [← part_lt hlt] at c0
          have hp8 := (HWF.out.part_le i).1
          have HP := Lib.hid (HWF.out.part_le i).2
          have HS := Lib.hid (show grF V (i + 1) = grP (part V i) i (grF V i) (part V i).length from rfl)
          obtain ⟨p, hp⟩ : ∃ p, part V i = p := ⟨_, rfl⟩
          obtain ⟨A, hA⟩ : ∃ A, grF V i = A := ⟨_, rfl⟩
          rw [hp] at c0 hp8 HP HS
          rw [hA] at HS HM
          clear hp hA
          have hsz := str_size p
          go_wp2_with fail
          clear c0
          go_loopg [32] p.length (fun gm kv wr => ∃ k : Nat, k ≤ p.length ∧ gm = p.length - k ∧ kv = .int .i64 k ∧ IM w wr cb V.length V.length (grP p i A k) G)
          case atStart => exact ⟨0, by omega, by omega, rfl, HM.out⟩
          case round =>
            clear HM
            obtain ⟨k, hk, rfl, rfl, hM⟩ := hrel
            have HM := Lib.hid hM
            clear hM
            by_cases hkl : k < p.length
            · have d3 : decide (k < p.length) = true := by simpa using hkl
              have hcn := HP.out _ (List.getElem_mem hkl)
              have hidx := index_chr hkl (by omega)
              have hu8 := u8_chr p[k] (by omega)
              have HSK : Hid (grP p i A (k + 1) = bump (grP p i A k) p[k] i) := Lib.hid (by rw [grP, at0_lt_of hkl])
              obtain ⟨c, hc⟩ : ∃ c, p[k] = c := ⟨_, rfl⟩
              rw [hc] at hcn hu8 HSK
              simp only [hc] at hidx
              obtain ⟨C, hC⟩ : ∃ C, 97 + c = C := ⟨_, rfl⟩
              rw [hC] at hu8
              simp only [hC] at hidx
              clear hc hC
              have hcG : c < G.length := by rw [HGL.out]; exact hcn
              have m1 := HM.out.outer_at hcG
              have m2 := HM.out.ent_at hcG hlt
              have m3 := HM.out.free hcG i
              have HMS := Lib.hid (HM.out.set hcG hlt (wrap64 (ent (grP p i A k) c i + 1)))
              obtain ⟨g, hg⟩ : ∃ g, G[c].1 = g := ⟨_, rfl⟩
              obtain ⟨gc, hgc⟩ : ∃ gc, G[c].2 = gc := ⟨_, rfl⟩
              rw [hg] at m1 m2 m3 HMS
              rw [hgc] at m1
              clear hg hgc hcG
              have hci : (c : Int) < (V.length : Int) := by omega
              obtain ⟨x, hx⟩ : ∃ x, ent (grP p i A k) c i = x := ⟨_, rfl⟩
              have HX := Lib.hid hx
              rw [hx] at m2 HMS
              clear hx
              go_wp2_with fail
              go_roundg (p.length - (k + 1))
              case measure => omega
              case rel => exact ⟨k + 1, by omega, rfl, by go_num, by rw [HSK.out]; unfold bump; rw [HX.out]; exact HMS.out⟩
            · obtain rfl : k = p.length := by omega
              go_wp2_with fail
              go_roundg (V.length - (i + 1))
              case measure => omega
              case rel => exact ⟨i + 1, by omega, rfl, by go_num, by rw [HS.out]; exact HM.out⟩
        · obtain rfl : i = V.length := by omega
          go_wp2_with fail
          go_ret
          exact ⟨⟨cb, G, rfl, HM.out, HGL.out⟩, HM.out.chg⟩
end Go.Proofs.YtilacamhjibneaaDoor
