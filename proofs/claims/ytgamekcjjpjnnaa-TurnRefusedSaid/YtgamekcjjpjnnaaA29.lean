/- Free, of the program and of the reference, walked. Their conditions are their premises. -/
import Derived.Test.YtgamekcjjpjnnaaA28
import Derived.Test.YtgamekcjjpjnnaaM6
import Derived.Laws.MakeOwn
set_option linter.unusedVariables false
namespace Go.Proofs.Ytgamekcjjpjnnaa
open Go.RowKit

theorem hr_set {G : List Int} {i j : Nat} {v : Int} (hi : i < G.length) (hj : j < G.length) : hr (G.set i v) j = if i = j then v else hr G j := by
  rw [hr_lt (by simpa using hj), hr_lt hj, List.getElem_set]

/-- A merge under way: the first i labels have been looked at. -/
structure MergeTo (G G' : List Int) (old new : Int) (i : Nat) : Prop where
  len : G'.length = G.length
  done : ∀ j, j < i → j < G.length → hr G' j = if hr G j = old then new else hr G j
  rest : ∀ j, i ≤ j → j < G.length → hr G' j = hr G j

theorem MergeTo.start {G : List Int} {old new : Int} : MergeTo G G old new 0 := ⟨rfl, fun j h => by omega, fun _ _ _ => rfl⟩
theorem MergeTo.skip {G G' : List Int} {old new : Int} {i : Nat} (h : MergeTo G G' old new i) (hi : i < G.length) (hn : hr G i ≠ old) : MergeTo G G' old new (i + 1) :=
  ⟨h.len, fun j hj hl => by
    rcases Nat.lt_succ_iff_lt_or_eq.1 hj with h' | rfl
    · exact h.done j h' hl
    · rw [h.rest j (Nat.le_refl _) hl, if_neg hn], fun j hj hl => h.rest j (by omega) hl⟩
theorem MergeTo.put {G G' : List Int} {old new : Int} {i : Nat} (h : MergeTo G G' old new i) (hi : i < G.length) (hn : hr G i = old) : MergeTo G (G'.set i new) old new (i + 1) :=
  ⟨by simp [h.len], fun j hj hl => by
    rw [hr_set (by rw [h.len]; exact hi) (by rw [h.len]; exact hl)]
    rcases Nat.lt_succ_iff_lt_or_eq.1 hj with h' | rfl
    · rw [if_neg (by omega)]; exact h.done j h' hl
    · rw [if_pos rfl, if_pos hn], fun j hj hl => by
    rw [hr_set (by rw [h.len]; exact hi) (by rw [h.len]; exact hl), if_neg (by omega)]
    exact h.rest j (by omega) hl⟩
theorem MergeTo.fin {G G' : List Int} {old new : Int} {i : Nat} (h : MergeTo G G' old new i) (hi : G.length ≤ i) : G' = mergeG G old new :=
  ext_hr (by rw [h.len, mergeG_len]) fun j hj => by
    have hj' : j < G.length := by rw [← h.len]; exact hj
    rw [h.done j (by omega) hj', mergeG_hr hj']

theorem _root_.Go.Blk.int_at {w : World} {B : Nat} {e : TypeId} {G : List Int} (h : Blk w B e (G.map (Value.int .i64))) {i : Nat} (hi : i < G.length) : w.cell? ⟨B, i, none⟩ = some (.int .i64 (hr G i)) :=
  h.cell_some (by rw [hr_lt hi]; simp [hi])
theorem _root_.Go.Blk.int_set {w : World} {B : Nat} {e : TypeId} {G : List Int} (h : Blk w B e (G.map (Value.int .i64))) (i : Nat) (x : Int) : Blk (w.setCell ⟨B, i, none⟩ (.int .i64 x)) B e ((G.set i x).map (Value.int .i64)) := by
  rw [List.map_set]
  exact h.set i _

theorem make_ints (N : Nat) (hN : N ≤ 1000) (w : World) : (Instr.makeSlice 25 (.int .i64 N) (.int .i64 N)).run Try.prog w = .ok (.slice (some ⟨w.heap.size, 0, none⟩) N N) (w.alloc (.cells (Array.replicate N (.int .i64 0)) 3)) := by
  obtain ⟨i0, hi0, hz0, hz1, hz2⟩ := info_parts info3
  have := run_make (P := Try.prog) w 25 3 i0 _ Try.underlying25 hi0 hz0 .i64 .i64 N N (by omega) (by omega) (by rw [hz2]; omega) (by omega)
  rw [this, hz1, Nat.mul_one, show (Value.int IntKind.i64 0).cells = #[Value.int IntKind.i64 0] from rfl, madeCells_one]
  rfl

theorem made_blk (N : Nat) (w : World) : Blk (w.alloc (.cells (Array.replicate N (.int .i64 0)) 3)) w.heap.size 3 ((List.replicate N (0 : Int)).map (Value.int .i64)) := by
  have := Blk.new w (Array.replicate N (.int .i64 0)) 3
  simpa using this

theorem grps_take {b : Bool} {N k : Nat} {l : List Sp} (hk : k < l.length) {G : List Int} {m : Int} (h : (l.take k).foldl (grpStep b) (initG N, (N : Int)) = (G, m)) : (l.take (k + 1)).foldl (grpStep b) (initG N, (N : Int)) = grpStep b (G, m) l[k] := by
  rw [List.take_succ_eq_append_getElem hk, List.foldl_append, h]
  rfl

set_option maxRecDepth 100000 in
set_option maxHeartbeats 2000000 in
theorem Free_any (t n : Int) (l : List Sp) (a : Option Addr) (cap b off : Nat) (w : World) (hs : SpansAt w b off l) (ha : l = [] ∨ a = some ⟨b, off, none⟩) :
    Calls Try.prog 35 #[.int .i64 t, .int .i64 n, .slice a l.length cap] w (PairPost (freeE t n l) w) := by
  have HS := Lib.hid hs; have HA := Lib.hid ha; clear hs ha
  go_enter Try.func35, Try.ntmps35
  go_wp2_with fail
  refine (of_any t n l a cap w b off HS.out HA.out).mono ?_
  rintro e w' ⟨⟨x, rfl⟩, ⟨h0, rfl⟩ | ⟨h0, p, rfl, hp, hsz⟩⟩
  · have hq : (spansE t n l != 0) = true := by simpa using h0
    have H0 := Lib.hid (freeE_err h0); have HC := Lib.hid (grow_chg w x); clear h0
    go_wp2_with fail
    go_ret2
    exact .of H0.out HC.out
  · have hv := valid_of h0
    obtain ⟨T, rfl⟩ : ∃ T : Nat, t = T := ⟨t.toNat, by have := hv.t1; omega⟩
    obtain ⟨N, rfl⟩ : ∃ N : Nat, n = N := ⟨n.toNat, by have := hv.n1; omega⟩
    have HC0 := Lib.hid (grow_chg w x)
    have HE := Lib.hid (freeE_ok h0); have HV := Lib.hid hv; have HP := Lib.hid hp
    have hn2 := hv.n2; have hl20 := hv.len
    have g1 := hp.2.1
    clear h0 hv hp
    generalize w.grow x = W at HC0 HP g1 ⊢
    have hmk := make_ints N (by omega)
    have HZ := Lib.hid HC0.out.size
    go_wp2_with fail
    have HB := Lib.hid (made_blk N W)
    have HCW := Lib.hid (HC0.out.alloc (.cells (Array.replicate N (.int .i64 0)) 3))
    have HP1 := Lib.hid (HP.out.chg ((Chg.refl (fun _ => False) W).alloc (.cells (Array.replicate N (.int .i64 0)) 3)) (fun x => x))
    generalize W.alloc (.cells (Array.replicate N (.int .i64 0)) 3) = W1 at HB HCW HP1 ⊢
    obtain ⟨Bg, hBg⟩ : ∃ Bg, W.heap.size = Bg := ⟨_, rfl⟩
    rw [hBg] at HB HZ ⊢
    have hpb : p < Bg := by rw [← hBg]; exact World.cell_lt HP.out.1
    clear hBg hmk g1
    go_loopg [36] N (fun g iv wr => ∃ (i : Nat) (G : List Int), i ≤ N ∧ g = N - i ∧ iv = .int .i64 i ∧ Blk wr Bg 3 (G.map (Value.int .i64)) ∧ G.length = N ∧ (∀ j, j < i → hr G j = j) ∧ Chg (fun _ => False) w wr ∧ PlanAt wr p T N (.slice a l.length cap))
    case atStart => exact ⟨0, List.replicate N 0, by omega, by omega, rfl, HB.out, by simp, fun j h => by omega, HCW.out, HP1.out⟩
    case round =>
      obtain ⟨i, G, hi, rfl, rfl, hB, hG, hd, hcg, hpl⟩ := hrel
      have HBW := Lib.hid hB; have HCG := Lib.hid hcg; have HD := Lib.hid hd; have HPL := Lib.hid hpl; have HGL := Lib.hid hG
      clear hB hcg hd hpl hG
      by_cases hlt : i < N
      · have gk := HBW.out.int_at (i := i) (by rw [HGL.out]; exact hlt)
        have gf := HBW.out.free i
        have hblt := HBW.out.lt
        go_wp2_with fail
        go_roundg (N - (i + 1))
        case measure => omega
        case rel =>
          refine ⟨i + 1, G.set i i, by omega, rfl, by go_num, HBW.out.int_set i i, by simp [HGL.out], fun j hj => ?_, HCG.out.setCell (a := ⟨Bg, i, none⟩) (.inr HZ.out) _, HPL.out.chg ((Chg.refl (fun k => k = Bg) wr).setCell (a := ⟨Bg, i, none⟩) (.inl rfl) _) (by omega)⟩
          rw [hr_set (by rw [HGL.out]; exact hlt) (by rw [HGL.out]; omega)]
          split
          · rename_i h; rw [h]
          · exact HD.out j (by omega)
      · obtain rfl : i = N := by omega
        have HGI := Lib.hid (show G = initG i from ext_hr (by rw [initG_len]; exact HGL.out) fun j hj => by rw [HD.out j (by rw [← HGL.out]; exact hj), initG_hr (by rw [← HGL.out]; exact hj)])
        have g1 := HPL.out.2.1
        clear hlt
        go_wp2_with fail
        clear g1
        go_loopg [12, 50] l.length (fun g mv iv wr => ∃ (k : Nat) (G : List Int) (m : Int), k ≤ l.length ∧ g = l.length - k ∧ iv = .int .i64 k ∧ mv = .int .i64 m ∧ (l.take k).foldl (grpStep false) (initG i, (i : Int)) = (G, m) ∧ Blk wr Bg 3 (G.map (Value.int .i64)) ∧ Chg (fun _ => False) w wr)
        case atStart => exact ⟨0, G, i, by omega, by omega, rfl, rfl, by rw [HGI.out]; rfl, HBW.out, HCG.out⟩
        case round =>
          obtain ⟨k, G, m, hk, rfl, rfl, rfl, hst, hB, hcg⟩ := hrel
          have hGL : G.length = i := by have := foldl_len false (l.take k) (initG i, (i : Int)); rw [hst, initG_len] at this; exact this
          have hml := foldl_low false (l.take k) (initG i, (i : Int))
          rw [hst] at hml
          dsimp only at hml
          have htl : (l.take k).length ≤ l.length := by simp; omega
          have HBW2 := Lib.hid hB; have HCG2 := Lib.hid hcg; have HST := Lib.hid hst; have HGL2 := Lib.hid hGL
          clear hB hcg hst
          by_cases hlt : k < l.length
          · have hne : a = some ⟨b, off, none⟩ := HA.out.resolve_left (by intro h; simp [h] at hlt)
            subst hne
            obtain ⟨c0, c1, c2, c3⟩ := HS.out.chg HCG2.out (fun x => x) k hlt
            have HTK := Lib.hid (grps_take hlt HST.out)
            have hok := HV.out.ok _ (List.getElem_mem hlt)
            obtain ⟨s, hs⟩ : ∃ s, l[k] = s := ⟨_, rfl⟩
            rw [hs] at c0 c1 c2 c3 hok HTK
            clear hs
            obtain ⟨o1, o2, o3, o4, o5, o6⟩ := hok
            clear o6
            have hal : Chg (fun _ => False) wr (wr.alloc (Obj.cells #[.int .i64 s.src, .int .i64 s.dst, .int .i64 s.lo, .int .i64 s.hi] 32)) := (Chg.refl _ wr).alloc _
            have gs := hal.cell_some (HBW2.out.int_at (i := s.src.toNat) (by omega)) (fun x => x)
            have gd := hal.cell_some (HBW2.out.int_at (i := s.dst.toNat) (by omega)) (fun x => x)
            obtain ⟨A, hA⟩ : ∃ A, hr G s.src.toNat = A := ⟨_, rfl⟩
            obtain ⟨B, hB⟩ : ∃ B, hr G s.dst.toNat = B := ⟨_, rfl⟩
            rw [hA] at gs
            rw [hB] at gd
            have HAL := Lib.hid hal
            have HAA := Lib.hid hA; have HBB := Lib.hid hB
            have bb := Blk.new wr #[.int .i64 s.src, .int .i64 s.dst, .int .i64 s.lo, .int .i64 s.hi] 32
            have b0 := bb.cell_some (i := 0) rfl
            have b1 := bb.cell_some (i := 1) rfl
            have hks : s.src < i := o2
            have hkd : s.dst < i := o4
            clear hal hA hB bb hGL
            go_wp2_with fail
            generalize (wr.alloc (Obj.cells #[.int .i64 s.src, .int .i64 s.dst, .int .i64 s.lo, .int .i64 s.hi] 32)) = W4 at HAL gs gd b0 b1 ⊢
            clear c0 c1 c2 c3
            go_quiet (fail)
            clear gs gd b0 b1
            have HC4 := Lib.hid ((HCG2.out.trans HAL.out (fun _ x => x.elim)).drewN nq)
            have HB4 := Lib.hid ((HAL.out.blk HBW2.out (fun x => x)).drewN nq)
            generalize W4.drewN nq = W5 at HC4 HB4 ⊢
            by_cases hab : A = B
            · have dab : (A == B) = true := by simpa using hab
              have HST2 := Lib.hid (show (l.take (k + 1)).foldl (grpStep false) (initG i, (i : Int)) = (G, m) by rw [HTK.out]; unfold grpStep; rw [if_pos (by dsimp only; rw [HAA.out, HBB.out, hab])])
              clear hab
              go_wp2_with fail
              go_roundg (l.length - (k + 1))
              case measure => omega
              case rel => exact ⟨k + 1, G, m, by omega, rfl, by go_num, rfl, HST2.out, HB4.out, HC4.out⟩
            · have dab : (A == B) = false := by simpa using hab
              have HST2 := Lib.hid (show (l.take (k + 1)).foldl (grpStep false) (initG i, (i : Int)) = (mergeG G B A, m - 1) by rw [HTK.out]; unfold grpStep; rw [if_neg (by dsimp only; rw [HAA.out, HBB.out]; exact hab)]; dsimp only; rw [HAA.out, HBB.out]; rfl)
              clear hab
              go_wp2_with fail
              go_loopg [71] i (fun g jv wr => ∃ (j : Nat) (G' : List Int), j ≤ i ∧ g = i - j ∧ jv = .int .i64 j ∧ MergeTo G G' B A j ∧ Blk wr Bg 3 (G'.map (Value.int .i64)) ∧ Chg (fun _ => False) w wr)
              case atStart => exact ⟨0, G, by omega, by omega, rfl, .start, HB4.out, HC4.out⟩
              case round =>
                obtain ⟨j, G', hj, rfl, rfl, hmt, hB, hcg⟩ := hrel
                have HMT := Lib.hid hmt; have HB6 := Lib.hid hB; have HC6 := Lib.hid hcg
                clear hmt hB hcg
                have hgl := HGL2.out
                by_cases hjl : j < i
                · have gk := HB6.out.int_at (i := j) (by rw [HMT.out.len, hgl]; exact hjl)
                  have gf := HB6.out.free j
                  have hblt := HB6.out.lt
                  rw [HMT.out.rest j (Nat.le_refl _) (by omega)] at gk
                  obtain ⟨z, hz⟩ : ∃ z, hr G j = z := ⟨_, rfl⟩
                  rw [hz] at gk
                  by_cases hzb : z = B
                  · have dz : (z == B) = true := by simpa using hzb
                    have HM2 := Lib.hid (HMT.out.put (by omega) (hz.trans hzb))
                    clear hzb hz hgl
                    go_wp2_with fail
                    go_roundg (i - (j + 1))
                    case measure => omega
                    case rel => exact ⟨j + 1, _, by omega, rfl, by go_num, HM2.out, HB6.out.int_set j A, HC6.out.setCell (a := ⟨Bg, j, none⟩) (.inr HZ.out) _⟩
                  · have dz : (z == B) = false := by simpa using hzb
                    have HM2 := Lib.hid (HMT.out.skip (by omega) (by rw [hz]; exact hzb))
                    clear hzb hz hgl
                    go_wp2_with fail
                    go_roundg (i - (j + 1))
                    case measure => omega
                    case rel => exact ⟨j + 1, _, by omega, rfl, by go_num, HM2.out, HB6.out, HC6.out⟩
                · have HFN := Lib.hid (HMT.out.fin (by omega))
                  clear hgl
                  go_wp2_with fail
                  go_roundg (l.length - (k + 1))
                  case measure => omega
                  case rel => exact ⟨k + 1, G', m - 1, by omega, rfl, by go_num, rfl, by rw [HST2.out, HFN.out], HB6.out, HC6.out⟩
          · obtain rfl : k = l.length := by omega
            have HM := Lib.hid (show m = (grps false i l).2 by have := HST.out; rw [List.take_length] at this; unfold grps; rw [this])
            clear hlt
            go_wp2_with fail
            go_ret2
            exact .of (by rw [HE.out, Int.toNat_natCast, ← HM.out]) HCG2.out

set_option maxRecDepth 100000 in
set_option maxHeartbeats 2000000 in
theorem Groups_any (T : Int) (i : Nat) (l : List Sp) (a : Option Addr) (cap b off : Nat) (w : World) (hv : Valid T i l) (hs : SpansAt w b off l) (ha : l = [] ∨ a = some ⟨b, off, none⟩) :
    Calls Try.prog 36 #[.int .i64 i, .slice a l.length cap] w fun e w' => e = .returned (.int .i64 (grps true i l).2) ∧ Chg (fun _ => False) w w' := by
  have HS := Lib.hid hs; have HA := Lib.hid ha; have HV := Lib.hid hv
  have hn2 := hv.n2; have hl20 := hv.len
  clear hs ha hv
  have hmk := make_ints i (by omega)
  go_enter Try.func36, Try.ntmps36
  go_wp2_with fail
  have HB := Lib.hid (made_blk i w)
  have HCW := Lib.hid ((Chg.refl (fun _ => False) w).alloc (.cells (Array.replicate i (.int .i64 0)) 3))
  generalize w.alloc (.cells (Array.replicate i (.int .i64 0)) 3) = W1 at HB HCW ⊢
  obtain ⟨Bg, hBg⟩ : ∃ Bg, w.heap.size = Bg := ⟨_, rfl⟩
  rw [hBg] at HB ⊢
  have HZ := Lib.hid (show w.heap.size ≤ Bg by omega)
  clear hBg hmk
  go_loopg [6] i (fun g iv wr => ∃ (k : Nat) (G : List Int), k ≤ i ∧ g = i - k ∧ iv = .int .i64 k ∧ Blk wr Bg 3 (G.map (Value.int .i64)) ∧ G.length = i ∧ (∀ j, j < k → hr G j = j) ∧ Chg (fun _ => False) w wr)
  case atStart => exact ⟨0, List.replicate i 0, by omega, by omega, rfl, HB.out, by simp, fun j h => by omega, HCW.out⟩
  case round =>
    obtain ⟨k, G, hi, rfl, rfl, hB, hG, hd, hcg⟩ := hrel
    have HBW := Lib.hid hB; have HCG := Lib.hid hcg; have HD := Lib.hid hd; have HGL := Lib.hid hG
    clear hB hcg hd hG
    by_cases hlt : k < i
    · have gk := HBW.out.int_at (i := k) (by rw [HGL.out]; exact hlt)
      have gf := HBW.out.free k
      have hblt := HBW.out.lt
      go_wp2_with fail
      go_roundg (i - (k + 1))
      case measure => omega
      case rel =>
        refine ⟨k + 1, G.set k k, by omega, rfl, by go_num, HBW.out.int_set k k, by simp [HGL.out], fun j hj => ?_, HCG.out.setCell (a := ⟨Bg, k, none⟩) (.inr HZ.out) _⟩
        rw [hr_set (by rw [HGL.out]; exact hlt) (by rw [HGL.out]; omega)]
        split
        · rename_i h; rw [h]
        · exact HD.out j (by omega)
    · obtain rfl : i = k := by omega
      have HGI := Lib.hid (show G = initG i from ext_hr (by rw [initG_len]; exact HGL.out) fun j hj => by rw [HD.out j (by rw [← HGL.out]; exact hj), initG_hr (by rw [← HGL.out]; exact hj)])
      clear hlt
      go_wp2_with fail
      go_loopg [7, 8] l.length (fun g mv iv wr => ∃ (k : Nat) (G : List Int) (m : Int), k ≤ l.length ∧ g = l.length - k ∧ iv = .int .i64 k ∧ mv = .int .i64 m ∧ (l.take k).foldl (grpStep true) (initG i, (i : Int)) = (G, m) ∧ Blk wr Bg 3 (G.map (Value.int .i64)) ∧ Chg (fun _ => False) w wr)
      case atStart => exact ⟨0, G, i, by omega, by omega, rfl, rfl, by rw [HGI.out]; rfl, HBW.out, HCG.out⟩
      case round =>
        obtain ⟨k, G, m, hk, rfl, rfl, rfl, hst, hB, hcg⟩ := hrel
        have hGL : G.length = i := by have := foldl_len true (l.take k) (initG i, (i : Int)); rw [hst, initG_len] at this; exact this
        have hml := foldl_low true (l.take k) (initG i, (i : Int))
        rw [hst] at hml
        dsimp only at hml
        have htl : (l.take k).length ≤ l.length := by simp; omega
        have HBW2 := Lib.hid hB; have HCG2 := Lib.hid hcg; have HST := Lib.hid hst; have HGL2 := Lib.hid hGL
        clear hB hcg hst
        by_cases hlt : k < l.length
        · have hne : a = some ⟨b, off, none⟩ := HA.out.resolve_left (by intro h; simp [h] at hlt)
          subst hne
          obtain ⟨c0, c1, c2, c3⟩ := HS.out.chg HCG2.out (fun x => x) k hlt
          have HTK := Lib.hid (grps_take hlt HST.out)
          have hok := HV.out.ok _ (List.getElem_mem hlt)
          obtain ⟨s, hs⟩ : ∃ s, l[k] = s := ⟨_, rfl⟩
          rw [hs] at c0 c1 c2 c3 hok HTK
          clear hs
          obtain ⟨o1, o2, o3, o4, o5, o6⟩ := hok
          clear o6
          have gs := HBW2.out.int_at (i := s.src.toNat) (by omega)
          have gd := HBW2.out.int_at (i := s.dst.toNat) (by omega)
          obtain ⟨A, hA⟩ : ∃ A, hr G s.src.toNat = A := ⟨_, rfl⟩
          obtain ⟨B, hB⟩ : ∃ B, hr G s.dst.toNat = B := ⟨_, rfl⟩
          rw [hA] at gs
          rw [hB] at gd
          have HAA := Lib.hid hA; have HBB := Lib.hid hB
          clear hA hB hGL
          go_wp2_with fail
          go_quiet (fail)
          clear gs gd c0 c1 c2 c3
          have HC4 := Lib.hid (HCG2.out.drewN nq)
          have HB4 := Lib.hid (HBW2.out.drewN nq)
          generalize wr.drewN nq = W5 at HC4 HB4 ⊢
          by_cases hab : A = B
          · have dab : (A == B) = true := by simpa using hab
            have HST2 := Lib.hid (show (l.take (k + 1)).foldl (grpStep true) (initG i, (i : Int)) = (G, m) by rw [HTK.out]; unfold grpStep; rw [if_pos (by dsimp only; rw [HAA.out, HBB.out, hab])])
            clear hab
            go_wp2_with fail
            go_roundg (l.length - (k + 1))
            case measure => omega
            case rel => exact ⟨k + 1, G, m, by omega, rfl, by go_num, rfl, HST2.out, HB4.out, HC4.out⟩
          · have dab : (A == B) = false := by simpa using hab
            have HST2 := Lib.hid (show (l.take (k + 1)).foldl (grpStep true) (initG i, (i : Int)) = (mergeG G A B, m - 1) by rw [HTK.out]; unfold grpStep; rw [if_neg (by dsimp only; rw [HAA.out, HBB.out]; exact hab)]; dsimp only; rw [HAA.out, HBB.out]; rfl)
            clear hab
            go_wp2_with fail
            go_loopg [11] i (fun g jv wr => ∃ (j : Nat) (G' : List Int), j ≤ i ∧ g = i - j ∧ jv = .int .i64 j ∧ MergeTo G G' A B j ∧ Blk wr Bg 3 (G'.map (Value.int .i64)) ∧ Chg (fun _ => False) w wr)
            case atStart => exact ⟨0, G, by omega, by omega, rfl, .start, HB4.out, HC4.out⟩
            case round =>
              obtain ⟨j, G', hj, rfl, rfl, hmt, hB, hcg⟩ := hrel
              have HMT := Lib.hid hmt; have HB6 := Lib.hid hB; have HC6 := Lib.hid hcg
              clear hmt hB hcg
              have hgl := HGL2.out
              by_cases hjl : j < i
              · have gk := HB6.out.int_at (i := j) (by rw [HMT.out.len, hgl]; exact hjl)
                have gf := HB6.out.free j
                have hblt := HB6.out.lt
                rw [HMT.out.rest j (Nat.le_refl _) (by omega)] at gk
                obtain ⟨z, hz⟩ : ∃ z, hr G j = z := ⟨_, rfl⟩
                rw [hz] at gk
                by_cases hzb : z = A
                · have dz : (z == A) = true := by simpa using hzb
                  have HM2 := Lib.hid (HMT.out.put (by omega) (hz.trans hzb))
                  clear hzb hz hgl
                  go_wp2_with fail
                  go_roundg (i - (j + 1))
                  case measure => omega
                  case rel => exact ⟨j + 1, _, by omega, rfl, by go_num, HM2.out, HB6.out.int_set j B, HC6.out.setCell (a := ⟨Bg, j, none⟩) (.inr HZ.out) _⟩
                · have dz : (z == A) = false := by simpa using hzb
                  have HM2 := Lib.hid (HMT.out.skip (by omega) (by rw [hz]; exact hzb))
                  clear hzb hz hgl
                  go_wp2_with fail
                  go_roundg (i - (j + 1))
                  case measure => omega
                  case rel => exact ⟨j + 1, _, by omega, rfl, by go_num, HM2.out, HB6.out, HC6.out⟩
              · have HFN := Lib.hid (HMT.out.fin (by omega))
                clear hgl
                go_wp2_with fail
                go_roundg (l.length - (k + 1))
                case measure => omega
                case rel => exact ⟨k + 1, G', m - 1, by omega, rfl, by go_num, rfl, by rw [HST2.out, HFN.out], HB6.out, HC6.out⟩
        · obtain rfl : k = l.length := by omega
          have HM := Lib.hid (show (grps true i l).2 = m by have := HST.out; rw [List.take_length] at this; unfold grps; rw [this])
          clear hlt
          go_wp2_with fail
          go_ret
          exact ⟨ret_int HM.out.symm, HCG2.out⟩

set_option maxRecDepth 100000 in
theorem rFree_any (t n : Int) (l : List Sp) (a : Option Addr) (cap b off : Nat) (w : World) (hs : SpansAt w b off l) (ha : l = [] ∨ a = some ⟨b, off, none⟩) :
    Calls Try.prog 41 #[.int .i64 t, .int .i64 n, .slice a l.length cap] w (PairPost (freeE t n l) w) := by
  have HS := Lib.hid hs; have HA := Lib.hid ha
  clear hs ha
  go_enter Try.func41, Try.ntmps41
  go_wp2_with fail
  refine (spans_any t n l a cap w b off HS.out HA.out).mono ?_
  rintro e w' ⟨rfl, x, rfl⟩
  have HC := Lib.hid (grow_chg w x)
  generalize w.grow x = W at HC ⊢
  by_cases h0 : spansE t n l = 0
  · have hv := valid_of h0
    rw [h0]
    obtain ⟨N, rfl⟩ : ∃ N : Nat, n = N := ⟨n.toNat, by have := hv.n1; omega⟩
    have hsm := grps_same (N := N) (l := l) (fun s hs => by have := hv.ok s hs; omega)
    have HE := Lib.hid (show freeE t (N : Int) l = ((l.length : Int) - N + (grps true N l).2, 0) by rw [freeE_ok h0, Int.toNat_natCast, hsm])
    have HV := Lib.hid hv
    have hn2 := hv.n2; have hl20 := hv.len
    have hml := foldl_low true l (initG N, (N : Int))
    have hml2 : (N : Int) - l.length ≤ (grps true N l).2 ∧ (grps true N l).2 ≤ N := hml
    obtain ⟨m, hm⟩ : ∃ m, (grps true N l).2 = m := ⟨_, rfl⟩
    rw [hm] at hml2
    have HM := Lib.hid hm
    clear h0 hv hsm hml hm
    go_wp2_with fail
    refine (Groups_any t N l a cap b off W HV.out (HS.out.chg HC.out (fun x => x)) HA.out).mono ?_
    rw [HM.out]
    rintro e w2 ⟨rfl, hc2⟩
    have HC2 := Lib.hid (HC.out.trans hc2 (fun _ x => x.elim))
    clear hc2
    go_wp2_with fail
    go_ret2
    exact .of (by rw [HE.out, HM.out]) HC2.out
  · have hq : (spansE t n l != 0) = true := by simpa using h0
    have H0 := Lib.hid (freeE_err h0); clear h0
    go_wp2_with fail
    go_ret2
    exact .of H0.out HC.out
end Go.Proofs.Ytgamekcjjpjnnaa
