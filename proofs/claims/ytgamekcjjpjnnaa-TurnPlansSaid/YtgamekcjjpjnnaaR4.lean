/- The reference's differences, walked: they are sound, and as tight as the spans. Its conditions are its premises. -/
import Derived.Test.YtgamekcjjpjnnaaR3
import Derived.Test.YtgamekcjjpjnnaaA33
import Derived.Laws.MakeOwn
set_option linter.unusedVariables false
namespace Go.Proofs.Ytgamekcjjpjnnaa
open Go.RowKit

theorem make_row (N : Nat) (hN : N ≤ 1000) (w : World) : (Instr.makeSlice 25 (.int .i64 N) (.int .i64 N)).run Try.prog w = .ok (.slice (some ⟨w.heap.size, 0, none⟩) N N) (w.alloc (.cells (Array.replicate N (.int .i64 0)) 3)) := by
  obtain ⟨i0, hi0, hz0, hz1, hz2⟩ := info_parts info3
  have := run_make (P := Try.prog) w 25 3 i0 _ Try.underlying25 hi0 hz0 .i64 .i64 N N (by omega) (by omega) (by rw [hz2]; omega) (by omega)
  rw [this, hz1, Nat.mul_one, show (Value.int IntKind.i64 0).cells = #[Value.int IntKind.i64 0] from rfl, madeCells_one]
  rfl
theorem made_row (N : Nat) (w : World) : Blk (w.alloc (.cells (Array.replicate N (.int .i64 0)) 3)) w.heap.size 3 (List.replicate N (Value.int .i64 0)) := by
  have := Blk.new w (Array.replicate N (.int .i64 0)) 3
  simpa using this
theorem info25 : (Try.prog.info? 25).map (fun i => (i.zero, i.size, i.bytes)) = some (some (.slice none 0 0), 1, 24) := by kernel_rfl

theorem set_same {α : Type} {L : List α} {k : Nat} {x : α} (h : L[k]? = some x) : L.set k x = L := by
  apply List.ext_getElem?
  intro i
  rw [List.getElem?_set]
  by_cases hk : k = i
  · subst hk
    rw [if_pos rfl, h, if_pos (List.getElem?_eq_some_iff.1 h).1]
  · rw [if_neg hk]

/-- The values of the first r rows. -/
def rowVals (rs : Nat → Nat) (N r : Nat) : List Value := (List.range r).map fun i => Value.slice (some ⟨rs i, 0, none⟩) N N
theorem rowVals_succ (rs : Nat → Nat) (N r b : Nat) : rowVals (fun i => if i = r then b else rs i) N (r + 1) = rowVals rs N r ++ [.slice (some ⟨b, 0, none⟩) N N] := by
  unfold rowVals
  rw [List.range_succ, List.map_append]
  congr 1
  · apply List.map_congr_left
    intro i hi
    have := List.mem_range.1 hi
    simp only [if_neg (show i ≠ r by omega)]
  · simp

theorem owns_keep {S : Nat → Prop} {w w' : World} {base : Nat} {e : TypeId} {sz : Nat} {v : Value} {n : Nat} {xs : List Value} (h : w.ownsRow base e sz v n xs) (hc : Chg S w w') (hS : ∀ k, v.ownBlock = some k → ¬ S k) : w'.ownsRow base e sz v n xs := by
  refine ⟨h.1, ?_⟩
  rcases h.2 with hn | ⟨g, cap, cur, rfl, hb, hgg, rest⟩
  · exact .inl hn
  · refine .inr ⟨g, cap, cur, rfl, hb, ?_, rest⟩
    rw [hc.block g (Array.getElem?_eq_some_iff.1 hgg).1 (hS g rfl)]
    exact hgg

/-- The rows under way. -/
structure RowsM (w0 : World) (T N r : Nat) (rs : Nat → Nat) (ov : Value) (w : World) : Prop where
  own : w.ownsRow w0.heap.size 25 1 ov r (rowVals rs N r)
  row : ∀ i, i < r → Blk w (rs i) 3 (rowM (initL T) N i)
  mono : ∀ i j, i < j → j < r → rs i < rs j
  bnd : ∀ i, i < r → w0.heap.size ≤ rs i ∧ ov.ownBlock ≠ some (rs i)
  chg : Chg (fun _ => False) w0 w

theorem RowsM.same {w0 w w' : World} {T N r : Nat} {rs : Nat → Nat} {ov : Value} (h : RowsM w0 T N r rs ov w) (hc : Chg (fun _ => False) w w') : RowsM w0 T N r rs ov w' :=
  ⟨owns_keep h.own hc (fun _ _ x => x), fun i hi => hc.blk (h.row i hi) (fun x => x), h.mono, h.bnd, h.chg.trans hc (fun _ x => x.elim)⟩

theorem RowsM.next {w0 w w' : World} {T N r b : Nat} {rs : Nat → Nat} {ov v' : Value} (h : RowsM w0 T N r rs ov w) (hb : Blk w b 3 (rowM (initL T) N r)) (hge : w0.heap.size ≤ b) (hlt : ∀ i, i < r → rs i < b) (hne : ov.ownBlock ≠ some b)
    (hown : w'.ownsRow w0.heap.size 25 1 v' (r + 1) (rowVals rs N r ++ [.slice (some ⟨b, 0, none⟩) N N])) (hg : w.grownBy w' ov.ownBlock) (hv : v'.ownBlock = ov.ownBlock ∨ ∃ g, w.heap.size ≤ g ∧ v'.ownBlock = some g) :
    RowsM w0 T N (r + 1) (fun i => if i = r then b else rs i) v' w' := by
  have hc : Chg (fun k => some k = ov.ownBlock) w w' := Chg.of_grownRow hg
  have hnew : ∀ k, k < w.heap.size → ov.ownBlock ≠ some k → v'.ownBlock ≠ some k := fun k hk hn => by
    rcases hv with hv | ⟨g, hg, hv⟩
    · rw [hv]; exact hn
    · rw [hv]; intro e; cases e; omega
  refine ⟨by rw [rowVals_succ]; exact hown, fun i hi => ?_, fun i j hij hj => ?_, fun i hi => ?_, h.chg.trans hc (fun k hk => .inr (h.own.lt k hk.symm).1)⟩
  · by_cases hir : i = r
    · subst hir
      simp only [if_pos]
      exact hc.blk hb (fun e => hne e.symm)
    · simp only [if_neg hir]
      exact hc.blk (h.row i (by omega)) (fun e => (h.bnd i (by omega)).2 e.symm)
  · by_cases hjr : j = r
    · subst hjr
      simp only [if_neg (show i ≠ j by omega), if_pos]
      exact hlt i hij
    · simp only [if_neg hjr, if_neg (show i ≠ r by omega)]
      exact h.mono i j hij (by omega)
  · by_cases hir : i = r
    · subst hir
      simp only [if_pos]
      exact ⟨hge, hnew b hb.lt hne⟩
    · simp only [if_neg hir]
      exact ⟨(h.bnd i (by omega)).1, hnew _ (h.row i (by omega)).lt (h.bnd i (by omega)).2⟩

def DiffPost (T N : Nat) (l : List Sp) (w : World) (e : Ending) (w' : World) : Prop :=
  ∃ g co rs M, e = .returned (.slice (some ⟨g, 0, none⟩) N co) ∧ ApartOk T N l M ∧ DiffAt w' g rs N M ∧ Chg (fun _ => False) w w'

set_option maxRecDepth 100000 in
set_option maxHeartbeats 0 in
theorem differences_any (T N : Nat) (l : List Sp) (hv : Valid T N l) (a : Option Addr) (cap b off : Nat) (w : World) (hs : SpansAt w b off l) (ha : l = [] ∨ a = some ⟨b, off, none⟩) :
    Calls Try.prog 54 #[.int .i64 T, .int .i64 N, .slice a l.length cap] w (DiffPost T N l w) := by
  obtain ⟨i0, hi0, hz0, hz1, hz2⟩ := info_parts info25
  have ht1 := hv.t1; have ht2 := hv.t2; have hn1 := hv.n1; have hn2 := hv.n2; have hl20 := hv.len
  have hmk := fun w => make_row N (by omega) w
  obtain ⟨_, hp1, hp2⟩ := rt_wraps (T := T) (s := 0) (d := 0) (by omega) (by omega) (Nat.two_pow_pos T)
  have hp3 : (2 : Int) ^ T - 1 = ((2 ^ T - 1 : Nat) : Int) := by have := Nat.two_pow_pos T; rw [Int.natCast_sub (by omega)]; simp
  have HP := Lib.hid (show wrap64 (wrap64 ((2 : Int) ^ T) - 1) = ((2 ^ T - 1 : Nat) : Int) by rw [hp1, hp2, hp3])
  have HP2 := Lib.hid (show wrap64 ((2 : Int) ^ T - 1) = ((2 ^ T - 1 : Nat) : Int) by rw [hp2, hp3])
  have HV := Lib.hid hv; have HS := Lib.hid hs; have HA := Lib.hid ha
  have HI0 := Lib.hid hi0; have HZ0 := Lib.hid hz0; have HZ1 := Lib.hid hz1; have HZ2 := Lib.hid hz2
  clear hv hs ha hi0 hz0 hz1 hz2 hp1 hp2 hp3
  go_enter Try.func54, Try.ntmps54
  go_wp2_with fail
  go_loopg [7, 8] N (fun g s7 iv wr => ∃ r rs ov, r ≤ N ∧ g = N - r ∧ iv = .int .i64 (r : Nat) ∧ ov = s7 ∧ RowsM w T N r rs ov wr)
  case atStart => exact ⟨0, fun _ => 0, _, by omega, by omega, rfl, rfl, World.ownsRow_nil _ _ _ _, fun i hi => by omega, fun i j _ hj => by omega, fun i hi => by omega, Chg.refl _ w⟩
  case round =>
    obtain ⟨r, rs, ov, hr, rfl, rfl, rfl, hR⟩ := hrel
    obtain ⟨W0, rfl⟩ : ∃ W0 : World, W0 = wr := ⟨_, rfl⟩
    by_cases hlt : r < N
    · have HR := Lib.hid hR
      clear hR
      go_wp2_with fail
      have HB := Lib.hid (made_row N W0)
      have HR1 := Lib.hid (HR.out.same ((Chg.refl (fun _ => False) W0).alloc (.cells (Array.replicate N (.int .i64 0)) 3)))
      have hsz : (W0.alloc (.cells (Array.replicate N (.int .i64 0)) 3)).heap.size = W0.heap.size + 1 := by simp
      have HLT : Hid (∀ i, i < r → rs i < W0.heap.size) := Lib.hid (fun i hi => (HR.out.row i hi).lt)
      have HNE : Hid (ov.ownBlock ≠ some W0.heap.size) := Lib.hid (fun e => by have := (HR.out.own.lt _ e).2; omega)
      have HGE := Lib.hid HR.out.chg.size
      obtain ⟨rb, hrb⟩ : ∃ rb, W0.heap.size = rb := ⟨_, rfl⟩
      rw [hrb] at HB HLT HNE HGE hsz ⊢
      generalize W0.alloc (.cells (Array.replicate N (.int .i64 0)) 3) = W1 at HB HR1 hsz ⊢
      clear hrb
      go_loopg [10] N (fun g iv wr => ∃ c L, c ≤ N ∧ g = N - c ∧ iv = .int .i64 (c : Nat) ∧ Blk wr rb 3 L ∧ L.length = N ∧ (∀ j, j < c → L[j]? = some (.int .i64 ((2 ^ T - 1 : Nat) : Int))) ∧ RowsM w T N r rs ov wr)
      case atStart => exact ⟨0, _, by omega, by omega, rfl, HB.out, by simp, fun j hj => by omega, HR1.out⟩
      case round =>
        obtain ⟨c, L, hc, rfl, rfl, hB, hL, hfull, hR2⟩ := hrel
        have HB2 := Lib.hid hB; have HL2 := Lib.hid hL; have HF2 := Lib.hid hfull; have HR2 := Lib.hid hR2
        have hlen := hL
        clear hL hR2
        by_cases hcN : c < N
        · have hx : (wr.cell? ⟨rb, c, none⟩) = some L[c] := hB.cell_some (by rw [List.getElem?_eq_getElem (by omega)])
          have hf := hB.free c
          clear hB hfull
          go_wp2_with fail
          go_roundg (N - (c + 1))
          case measure => omega
          case rel =>
            refine ⟨c + 1, L.set c (.int .i64 ((2 ^ T - 1 : Nat) : Int)), by omega, rfl, by go_num, ?_, by rw [List.length_set]; exact HL2.out, fun j hj => ?_, ?_⟩
            · rw [HP.out]; exact HB2.out.set c _
            · rw [List.getElem?_set]
              by_cases hjc : c = j
              · rw [if_pos hjc, if_pos (by omega)]
              · rw [if_neg hjc]; exact HF2.out j (by omega)
            · have hcs : Chg (fun k => k = rb) wr (wr.setCell ⟨rb, c, none⟩ (.int .i64 (wrap64 (wrap64 ((2 : Int) ^ T) - 1)))) := (Chg.refl (fun k => k = rb) wr).setCell (a := ⟨rb, c, none⟩) (.inl rfl) _
              exact ⟨owns_keep HR2.out.own hcs (fun k hk e => HNE.out (by rw [hk, e])), fun i hi => hcs.blk (HR2.out.row i hi) (fun e => by have := HLT.out i hi; omega), HR2.out.mono, HR2.out.bnd, HR2.out.chg.trans hcs (fun k e => .inr (by have := HGE.out; omega))⟩
        · obtain rfl : c = N := by omega
          have hLL : L = List.replicate c (.int .i64 ((2 ^ T - 1 : Nat) : Int)) := by
            apply List.ext_getElem?
            intro j
            by_cases hj : j < c
            · rw [hfull j hj, List.getElem?_replicate, if_pos hj]
            · rw [List.getElem?_eq_none (by omega), List.getElem?_eq_none (by simp; omega)]
          subst hLL
          have hx : wr.cell? ⟨rb, r, none⟩ = some (.int .i64 ((2 ^ T - 1 : Nat) : Int)) := hB.cell_some (by rw [List.getElem?_replicate, if_pos hlt])
          have hf := hB.free r
          clear hB hlen hfull HF2 HL2
          have HB3 := Lib.hid (show Blk (wr.setCell ⟨rb, r, none⟩ (.int .i64 1)) rb 3 (rowM (initL T) c r) by rw [rowM_init (by omega) hlt]; exact HB2.out.set r _)
          have HR3 : Hid (RowsM w T c r rs ov (wr.setCell ⟨rb, r, none⟩ (.int .i64 1))) := Lib.hid (by
            have hcs : Chg (fun k => k = rb) wr (wr.setCell ⟨rb, r, none⟩ (.int .i64 1)) := (Chg.refl (fun k => k = rb) wr).setCell (a := ⟨rb, r, none⟩) (.inl rfl) _
            exact ⟨owns_keep HR2.out.own hcs (fun k hk e => HNE.out (by rw [hk, e])), fun i hi => hcs.blk (HR2.out.row i hi) (fun e => by have := HLT.out i hi; omega), HR2.out.mono, HR2.out.bnd, HR2.out.chg.trans hcs (fun k e => .inr (by have := HGE.out; omega))⟩)
          obtain ⟨W3, hW3⟩ : ∃ W3 : World, W3 = wr.setCell ⟨rb, r, none⟩ (.int .i64 1) := ⟨_, rfl⟩
          rw [← hW3] at HB3 HR3
          have HW3 := Lib.hid hW3
          have hsz3 : w.heap.size ≤ W3.heap.size := HR3.out.chg.size
          have hsz4 : W3.heap.size = wr.heap.size := by rw [hW3]; simp [World.setCell]
          have HNEW : Hid (∀ j u, [Value.slice (some ⟨rb, 0, none⟩) c c][j]? = some u → (W3.alloc (Obj.cells #[Value.slice (some ⟨rb, 0, none⟩) c c] 25)).cell? ((⟨wr.heap.size, 0, none⟩ : Addr).add j) = some u) := Lib.hid (fun j u hu => by
            rw [add_plain, Nat.zero_add, ← hsz4]
            exact (Blk.new W3 #[Value.slice (some ⟨rb, 0, none⟩) c c] 25).cell_some hu)
          have HOW := Lib.hid (HR3.out.own.alloc (Obj.cells #[Value.slice (some ⟨rb, 0, none⟩) c c] 25))
          clear hW3
          go_wp2_with (first | (rw [← HW3.out]) | (at_builtin; refine wpList_append_two rfl (.tmp 42) (.tmp 44) 67 rfl w.heap.size 25 i0 (.slice none 0 0) 1 24 Try.underlying67 HI0.out HZ0.out HZ1.out HZ2.out rfl (by decide) ov r (rowVals rs c r) rfl HOW.out ⟨wr.heap.size, 0, none⟩ 1 1 [.slice (some ⟨rb, 0, none⟩) c c] rfl rfl HNEW.out (by intro u hu; simp at hu; subst hu; rfl) (by simp [maxLen]; omega) (by omega) (by simp; omega) ?_; intro v1 w1 hown1 hgrow1 hv1; have HOWN1 := Lib.hid hown1; have HGROW1 := Lib.hid hgrow1; have HV1 := Lib.hid hv1; clear hown1 hgrow1 hv1))
          go_roundg (c - (r + 1))
          case measure => omega
          case rel =>
            refine ⟨r + 1, _, v1, by omega, rfl, by go_num, rfl, (HR3.out.same ((Chg.refl (fun _ => False) W3).alloc _)).next (HB3.out.alloc _) HGE.out HLT.out HNE.out HOWN1.out HGROW1.out HV1.out⟩
    · obtain rfl : r = N := by omega
      obtain ⟨ao, co, hov, hg⟩ := owns_form hR.own
      obtain ⟨g, hao, hge, hglt, hcells⟩ := hg (by omega)
      subst hao
      subst hov
      have hD : DiffAt W0 g rs r (initL T) := ⟨fun i hi => hcells i _ (by unfold rowVals; rw [List.getElem?_map, List.getElem?_range hi]; rfl), hR.row, hR.mono, fun i hi e => (hR.bnd i hi).2 (by rw [e]; rfl)⟩
      have HD := Lib.hid hD
      have HBN : Hid (w.heap.size ≤ g ∧ ∀ i, i < r → w.heap.size ≤ rs i) := Lib.hid ⟨hge, fun i hi => (hR.bnd i hi).1⟩
      have HC := Lib.hid hR.chg
      have HSM := Lib.hid (SpanM.start (l := l) (initL_ok (T := T) (N := r) (by omega) (by omega)) (by omega))
      clear hR hcells hD hg hge hglt
      go_wp2_with fail
      go_loopg [11] l.length (fun gm iv wr => ∃ k M, k ≤ l.length ∧ gm = l.length - k ∧ iv = .int .i64 (k : Nat) ∧ DiffAt wr g rs r M ∧ SpanM T r l M k ∧ Chg (fun _ => False) w wr)
      case atStart => exact ⟨0, _, by omega, by omega, rfl, HD.out, HSM.out, HC.out⟩
      case round =>
        clear HD HC HSM
        obtain ⟨k, M, hk, rfl, rfl, hD, hS, hc⟩ := hrel
        have HD := Lib.hid hD; have HSM := Lib.hid hS; have HC := Lib.hid hc
        clear hD hS hc
        by_cases hkl : k < l.length
        · have hne : a = some ⟨b, off, none⟩ := HA.out.resolve_left (by intro h; simp [h] at hkl)
          subst hne
          obtain ⟨c0, c1, c2, c3⟩ := HS.out.chg HC.out (fun x => x) k hkl
          obtain ⟨o1, o2, o3, o4, o5, o6, o7, o8, o9⟩ := HV.out.ok _ (List.getElem_mem hkl)
          have HSTEP := Lib.hid (HSM.out.step hkl (by omega) (by omega) (by omega) HV.out.ok)
          generalize hsp : l[k] = s at *
          obtain ⟨f, d, lo, hi'⟩ := s
          dsimp only at *
          obtain ⟨F, rfl⟩ : ∃ F : Nat, f = F := ⟨f.toNat, by omega⟩
          obtain ⟨G, rfl⟩ : ∃ G : Nat, d = G := ⟨d.toNat, by omega⟩
          clear hsp
          obtain ⟨W1, rfl⟩ : ∃ W1 : World, W1 = wr := ⟨_, rfl⟩
          have HB := Lib.hid (Blk.new W1 #[Value.int IntKind.i64 F, Value.int IntKind.i64 G, Value.int IntKind.i64 lo, Value.int IntKind.i64 hi'] 32)
          have HC2 := Lib.hid ((Chg.refl (fun _ => False) W1).alloc (.cells #[Value.int IntKind.i64 F, Value.int IntKind.i64 G, Value.int IntKind.i64 lo, Value.int IntKind.i64 hi'] 32))
          go_wp2_with fail
          obtain ⟨sb, hsb⟩ : ∃ sb, W1.heap.size = sb := ⟨_, rfl⟩
          have HDB : Hid (g ≠ sb ∧ ∀ i, i < r → rs i ≠ sb) := Lib.hid ⟨by have := World.cell_lt (HD.out.out 0 (by omega)); dsimp only at this; omega, fun i hi => by have := (HD.out.row i hi).lt; omega⟩
          rw [hsb] at HB ⊢
          have HD2 := Lib.hid (HD.out.same HC2.out)
          have HC3 := Lib.hid (HC.out.trans HC2.out (fun _ x => x.elim))
          clear HD HC c0 c1 c2 c3 hsb HC2
          generalize W1.alloc (.cells #[Value.int IntKind.i64 F, Value.int IntKind.i64 G, Value.int IntKind.i64 lo, Value.int IntKind.i64 hi'] 32) = W2 at HB HD2 HC3 ⊢
          have z0 := HB.out.cell_some (i := 0) rfl
          have z1 := HB.out.cell_some (i := 1) rfl
          have z2 := HB.out.cell_some (i := 2) rfl
          have z3 := HB.out.cell_some (i := 3) rfl
          have hFZ := Lib.hid (FwdS.zero (T := T) (lo := lo) (by omega))
          have hBZ := Lib.hid (BwdS.zero (T := T) (lo := lo) (by omega))
          have hp24 := pow_small (t := T) (by omega)
          have htI : (1 : Int) ≤ T := ht1
          go_loopg [13, 14, 15] (hi' - lo + 1).toNat (fun gm s13 s14 dv wr => ∃ (c x y : Nat), c ≤ (hi' - lo + 1).toNat ∧ gm = (hi' - lo + 1).toNat - c ∧ dv = .int .i64 (lo + c) ∧ s13 = .int .i64 (x : Nat) ∧ s14 = .int .i64 (y : Nat) ∧ FwdS T lo c x ∧ BwdS T lo c y ∧ W2 = wr)
          case atStart => exact ⟨0, 0, 0, by omega, by omega, by simp, rfl, rfl, hFZ.out, hBZ.out, rfl⟩
          case round =>
            obtain ⟨c, x, y, hc, rfl, rfl, rfl, rfl, hFx, hBy, rfl⟩ := hrel
            have HFX := Lib.hid hFx; have HBY := Lib.hid hBy
            have hx := hFx.1; have hy := hBy.1
            clear hFx hBy
            by_cases hcc : c < (hi' - lo + 1).toNat
            · have dc : decide (lo + (c : Int) ≤ hi') = true := by rw [decide_eq_true_eq]; omega
              have h1 := Int.emod_nonneg (lo + (c : Int)) (show (T : Int) ≠ 0 by omega)
              have h2 := Int.emod_lt_of_pos (lo + (c : Int)) (show (0 : Int) < T by omega)
              have h3 := Int.emod_nonneg (-(lo + (c : Int))) (show (T : Int) ≠ 0 by omega)
              have h4 := Int.emod_lt_of_pos (-(lo + (c : Int))) (show (0 : Int) < T by omega)
              have HF2 := Lib.hid (HFX.out.step (by omega) (by omega))
              have HB2 := Lib.hid (HBY.out.step (by omega) (by omega))
              have m1 := fun w => mod_any (lo + (c : Int)) T w (by omega) (by omega) (by omega) (by omega)
              have m2 := fun w => mod_any (-(lo + (c : Int))) T w (by omega) (by omega) (by omega) (by omega)
              obtain ⟨p, hp⟩ := Int.eq_ofNat_of_zero_le h1
              obtain ⟨q, hq⟩ := Int.eq_ofNat_of_zero_le h3
              rw [hp] at h2 HF2 m1
              rw [hq] at h4 HB2 m2
              rw [Int.toNat_natCast] at HF2 HB2
              have M1 := Lib.hid m1; have M2 := Lib.hid m2
              have hpp := pow_small (t := p) (by omega)
              have hqq := pow_small (t := q) (by omega)
              have hor1 := i64_or_nat x (2 ^ p) (by omega) (by omega)
              have hor2 := i64_or_nat y (2 ^ q) (by omega) (by omega)
              have hw1 := i64_pow (c := p) (by omega)
              have hw2 := i64_pow (c := q) (by omega)
              have HOR1 := Lib.hid hor1; have HOR2 := Lib.hid hor2; have HW1 := Lib.hid hw1; have HW2 := Lib.hid hw2
              clear m1 m2 h1 h3 hp hq hor1 hor2 hw1 hw2 hpp hqq
              go_wp2_with fail
              refine (M1.out _).mono ?_
              rintro e w' ⟨rfl, rfl⟩
              go_wp2_with fail
              refine (M2.out _).mono ?_
              rintro e w' ⟨rfl, rfl⟩
              go_wp2_with fail
              go_roundg ((hi' - lo + 1).toNat - (c + 1))
              case measure => omega
              case rel =>
                refine ⟨c + 1, _, _, by omega, rfl, by rw [Int.add_assoc]; rfl, ?_, ?_, HF2.out, HB2.out, rfl⟩
                · rw [HW1.out, HOR1.out]
                · rw [HW2.out, HOR2.out]
            · obtain rfl : c = (hi' - lo + 1).toNat := by omega
              have dc : decide (lo + ((hi' - lo + 1).toNat : Int) ≤ hi') = false := by rw [decide_eq_false_iff_not]; omega
              have hxe := HFX.out.val (by omega) (by omega) o8 (by omega)
              have hye := HBY.out.val (by omega) (by omega) o8 (by omega)
              obtain ⟨N', hN'⟩ : ∃ N', (hi' - lo + 1).toNat = N' := ⟨_, rfl⟩
              have HX := Lib.hid hxe; have HY := Lib.hid hye
              have hFr : F < r := by omega
              have hGr : G < r := by omega
              have HSMM := Lib.hid HSM.out.small
              have hmm := HSMM.out.at (i := F) (j := G) (by omega) (by omega)
              have hM36 := HSMM.out.1
              have hand1 := i64_and_nat (at6 M F G) x (by omega) (by omega)
              have e1 := HD2.out.out F hFr
              have e2 := HD2.out.cell hFr hGr
              have e3 := (HD2.out.row F hFr).free G
              have hS2 : Chg (fun k => k = rs F) W2 (W2.setCell ⟨rs F, G, none⟩ (.int .i64 ((at6 M F G &&& x : Nat) : Int))) := (Chg.refl (fun k => k = rs F) W2).setCell (a := ⟨rs F, G, none⟩) (.inl rfl) _
              clear hxe hye HFX HBY
              go_wp2_with fail
              refine wp_region_drewN_tail 19 (by kernel_rfl) (by kernel_rfl) ?_
              simp only [List.take_succ_cons, List.take_zero, List.drop_succ_cons, List.drop_zero]
              repeat (go_big_quiet_step (fail))
              refine wpQuiet_nil ?_
              rintro _ ⟨nq, rfl⟩
              go_wp2_with fail
              have hne1 := HDB.out.2 F hFr
              have HD3 := Lib.hid ((HD2.out.same ((Chg.refl (fun _ => False) W2).drewN nq)).store hM36 (by omega) hFr hGr (at6 M F G &&& x))
              have HB3 := Lib.hid (((HB.out.drewN nq).setOther (a := ⟨rs F, G, none⟩) hne1 (.int .i64 ((at6 M F G &&& x : Nat) : Int))))
              have HC4 := Lib.hid ((HC3.out.drewN nq).setCell (a := ⟨rs F, G, none⟩) (.inr (HBN.out.2 F hFr)) (.int .i64 ((at6 M F G &&& x : Nat) : Int)))
              have HM3 := Lib.hid (HSMM.out.set (F * 6 + G) (v := at6 M F G &&& x) (Nat.lt_of_le_of_lt Nat.and_le_left hmm))
              obtain ⟨M3, hM3⟩ : ∃ M3, M.set (F * 6 + G) (at6 M F G &&& x) = M3 := ⟨_, rfl⟩
              rw [hM3] at HD3 HM3
              have HM3E := Lib.hid hM3
              clear e1 e2 e3 hS2 hand1 hM3 HD2 HB HC3 z0 z1 z2 z3
              generalize (W2.drewN nq).setCell ⟨rs F, G, none⟩ (.int .i64 ((at6 M F G &&& x : Nat) : Int)) = W3 at HD3 HB3 HC4 ⊢
              have z0 := HB3.out.cell_some (i := 0) rfl
              have z1 := HB3.out.cell_some (i := 1) rfl
              have hmm3 := HM3.out.at (i := G) (j := F) (by omega) (by omega)
              have hM336 := HM3.out.1
              have hand1 := i64_and_nat (at6 M3 G F) y (by omega) (by omega)
              have e1 := HD3.out.out G hGr
              have e2 := HD3.out.cell hGr hFr
              have e3 := (HD3.out.row G hGr).free F
              refine wp_region_drewN_tail 19 (by kernel_rfl) (by kernel_rfl) ?_
              simp only [List.take_succ_cons, List.take_zero, List.drop_succ_cons, List.drop_zero]
              repeat (go_big_quiet_step (fail))
              refine wpQuiet_nil ?_
              rintro _ ⟨nr, rfl⟩
              go_wp2_with fail
              go_roundg (l.length - (k + 1))
              case measure => omega
              case rel =>
                refine ⟨k + 1, _, by omega, rfl, by go_num, (HD3.out.same ((Chg.refl (fun _ => False) W3).drewN nr)).store hM336 (by omega) hGr hFr (at6 M3 G F &&& y), ?_, (HC4.out.drewN nr).setCell (a := ⟨rs G, F, none⟩) (.inr (HBN.out.2 G hGr)) _⟩
                have h := HSTEP.out
                unfold bwdM fwdM at h
                dsimp only at h
                rw [Int.toNat_natCast, Int.toNat_natCast, ← HX.out, ← HY.out, HM3E.out] at h
                exact h
        · obtain rfl : k = l.length := by omega
          have HAP := Lib.hid HSM.out.ok
          clear HSM
          go_wp2_with fail
          go_loopg [16] (M.sum + 1) (fun gm s16 wr => ∃ M ch, s16 = .bool ch ∧ gm = M.sum + (if ch = true then 1 else 0) ∧ DiffAt wr g rs r M ∧ ApartOk T r l M ∧ Chg (fun _ => False) w wr)
          case atStart => exact ⟨M, true, rfl, rfl, HD.out, HAP.out, HC.out⟩
          case round =>
            clear HD HC HAP
            obtain ⟨M1, ch, rfl, rfl, hD1, hA1, hc1⟩ := hrel
            have HD1 := Lib.hid hD1; have HA1 := Lib.hid hA1; have HC1 := Lib.hid hc1
            clear hD1 hA1 hc1
            cases ch with
            | false =>
              go_wp2_with fail
              go_ret
              exact ⟨g, co, rs, M1, rfl, HA1.out, HD1.out, HC1.out⟩
            | true =>
              go_wp2_with fail
              have hS0 := Lib.hid (Nat.le_refl M1.sum)
              go_loopg [16, 17] r (fun gm s16 iv wr => ∃ ii M ch, ii ≤ r ∧ gm = r - ii ∧ iv = .int .i64 (ii : Nat) ∧ s16 = .bool ch ∧ DiffAt wr g rs r M ∧ ApartOk T r l M ∧ Less M1 M ch ∧ Chg (fun _ => False) w wr)
              case atStart => exact ⟨0, M1, false, by omega, by omega, rfl, rfl, HD1.out, HA1.out, ⟨Nat.le_refl _, fun h => by cases h⟩, HC1.out⟩
              case round =>
                clear HD1 HA1 HC1
                obtain ⟨ii, M2, ch2, hii, rfl, rfl, rfl, hD2, hA2, hL2, hc2⟩ := hrel
                have HD2 := Lib.hid hD2; have HA2 := Lib.hid hA2; have HL2 := Lib.hid hL2; have HC2 := Lib.hid hc2
                clear hD2 hA2 hL2 hc2
                by_cases hi1 : ii < r
                · go_wp2_with fail
                  go_loopg [16, 18] r (fun gm s16 iv wr => ∃ jj M ch, jj ≤ r ∧ gm = r - jj ∧ iv = .int .i64 (jj : Nat) ∧ s16 = .bool ch ∧ DiffAt wr g rs r M ∧ ApartOk T r l M ∧ Less M1 M ch ∧ Chg (fun _ => False) w wr)
                  case atStart => exact ⟨0, M2, ch2, by omega, by omega, rfl, rfl, HD2.out, HA2.out, HL2.out, HC2.out⟩
                  case round =>
                    clear HD2 HA2 HL2 HC2
                    obtain ⟨jj, M3, ch3, hjj, rfl, rfl, rfl, hD3, hA3, hL3, hc3⟩ := hrel
                    have HD3 := Lib.hid hD3; have HA3 := Lib.hid hA3; have HL3 := Lib.hid hL3; have HC3 := Lib.hid hc3
                    clear hD3 hA3 hL3 hc3
                    by_cases hj1 : jj < r
                    · go_wp2_with fail
                      go_loopg [16, 19] r (fun gm s16 iv wr => ∃ kk M ch, kk ≤ r ∧ gm = r - kk ∧ iv = .int .i64 (kk : Nat) ∧ s16 = .bool ch ∧ DiffAt wr g rs r M ∧ ApartOk T r l M ∧ Less M1 M ch ∧ Chg (fun _ => False) w wr)
                      case atStart => exact ⟨0, M3, ch3, by omega, by omega, rfl, rfl, HD3.out, HA3.out, HL3.out, HC3.out⟩
                      case round =>
                        clear HD3 HA3 HL3 HC3
                        obtain ⟨kk, M4, ch4, hkk, rfl, rfl, rfl, hD4, hA4, hL4, hc4⟩ := hrel
                        have HD4 := Lib.hid hD4; have HA4 := Lib.hid hA4; have HL4 := Lib.hid hL4; have HC4 := Lib.hid hc4
                        clear hD4 hA4 hL4 hc4
                        by_cases hk1 : kk < r
                        · have e1 := World.grow_cell (HD4.out.out ii hi1)
                          have e2 := World.grow_cell (HD4.out.out jj hj1)
                          have e3 := World.grow_cell (HD4.out.cell hi1 hk1)
                          have e4 := World.grow_cell (HD4.out.cell hi1 hj1)
                          have e5 := World.grow_cell (HD4.out.cell hj1 hk1)
                          have hb1 := HA4.out.small.at (i := ii) (j := jj) (by omega) (by omega)
                          have hb2 := HA4.out.small.at (i := jj) (j := kk) (by omega) (by omega)
                          have hb3 := HA4.out.small.at (i := ii) (j := kk) (by omega) (by omega)
                          have hp24 := pow_small (t := T) (by omega)
                          obtain ⟨bb, hJ⟩ := JB.exists T (at6 M4 ii jj) (at6 M4 jj kk) T (by omega) (by omega) hb2 (Nat.le_refl _)
                          have HTG := Lib.hid (fun z => Calls.grow_of (together_val T _ _ bb (wr.grow z) (by omega) hb1 hb2 hJ))
                          have HAS := Lib.hid (HA4.out.step (by omega) (by omega) (fun s hs => by obtain ⟨a, b, c, d, _⟩ := HV.out.ok s hs; exact ⟨a, b, c, d⟩) hi1 hj1 hk1 hJ.joint)
                          have hand1 := i64_and_nat (at6 M4 ii kk) bb (by omega) (by have := hJ.1; omega)
                          have HLE : Hid (at6 M4 ii kk &&& bb ≤ at6 M4 ii kk) := Lib.hid Nat.and_le_left
                          have HJ := Lib.hid hJ
                          clear hJ
                          obtain ⟨xv, hxv⟩ : ∃ xv, at6 M4 ii kk &&& bb = xv := ⟨_, rfl⟩
                          have hxv' : xv < 2 ^ T := by rw [← hxv]; have := HLE.out; omega
                          rw [hxv] at hand1 HLE HAS
                          have HXV := Lib.hid hxv
                          clear hxv
                          go_wp2_with fail
                          refine wp_region_grow_lit (by kernel_rfl) (by kernel_rfl) ?_
                          repeat (go_big_quiet_step ((go_at_call 73; exact HTG.out _)))
                          refine wpQuiet_nil ?_
                          intro _ hw'
                          obtain ⟨nq, hw''⟩ := hw'
                          subst hw''
                          have HDW := Lib.hid (HD4.out.same (grow_chg wr nq))
                          have HCW := Lib.hid (HC4.out.grow nq)
                          clear e1 e2 e3 e4 e5 HTG
                          generalize wr.grow nq = W5 at HDW HCW ⊢
                          have e1 := HDW.out.out ii hi1
                          have e3 := HDW.out.cell hi1 hk1
                          have e6 := (HDW.out.row ii hi1).free kk
                          have hM36 := HA4.out.small.1
                          have HKX : Hid (M4[ii * 6 + kk]? = some (at6 M4 ii kk)) := Lib.hid (at6_get (by omega) (by omega) hM36)
                          clear hand1
                          by_cases hxe : xv = at6 M4 ii kk
                          · have HSET : Hid (M4.set (ii * 6 + kk) xv = M4) := Lib.hid (by rw [hxe]; exact set_same HKX.out)
                            have HXE := Lib.hid hxe
                            have d1 : ((xv : Int) != (at6 M4 ii kk : Int)) = false := by rw [hxe]; simp
                            clear hxe
                            cases ch4 with
                            | true =>
                              go_wp2_with fail
                              go_roundg (r - (kk + 1))
                              case measure => omega
                              case rel => exact ⟨kk + 1, _, true, by omega, rfl, by go_num, rfl, HDW.out.store hM36 (by omega) hi1 hk1 xv, HAS.out, (by rw [HSET.out]; exact HL4.out), HCW.out.setCell (a := ⟨rs ii, kk, none⟩) (.inr (HBN.out.2 ii hi1)) _⟩
                            | false =>
                              go_wp2_with fail
                              go_roundg (r - (kk + 1))
                              case measure => omega
                              case rel => exact ⟨kk + 1, _, false, by omega, rfl, by go_num, rfl, HDW.out.store hM36 (by omega) hi1 hk1 xv, HAS.out, (by rw [HSET.out]; exact HL4.out), HCW.out.setCell (a := ⟨rs ii, kk, none⟩) (.inr (HBN.out.2 ii hi1)) _⟩
                          · have hlt' : xv < at6 M4 ii kk := by have := HLE.out; omega
                            have HLT2 := Lib.hid hlt'
                            have d1 : ((xv : Int) != (at6 M4 ii kk : Int)) = true := by rw [bne_iff_ne]; omega
                            clear hxe hlt'
                            cases ch4 with
                            | true =>
                              go_wp2_with fail
                              go_roundg (r - (kk + 1))
                              case measure => omega
                              case rel => exact ⟨kk + 1, _, true, by omega, rfl, by go_num, rfl, HDW.out.store hM36 (by omega) hi1 hk1 xv, HAS.out, (HL4.out.step HKX.out HLT2.out), HCW.out.setCell (a := ⟨rs ii, kk, none⟩) (.inr (HBN.out.2 ii hi1)) _⟩
                            | false =>
                              go_wp2_with fail
                              go_roundg (r - (kk + 1))
                              case measure => omega
                              case rel => exact ⟨kk + 1, _, true, by omega, rfl, by go_num, rfl, HDW.out.store hM36 (by omega) hi1 hk1 xv, HAS.out, (HL4.out.step HKX.out HLT2.out), HCW.out.setCell (a := ⟨rs ii, kk, none⟩) (.inr (HBN.out.2 ii hi1)) _⟩
                        · obtain rfl : kk = r := by omega
                          go_wp2_with fail
                          go_roundg (kk - (jj + 1))
                          case measure => omega
                          case rel => exact ⟨jj + 1, M4, ch4, by omega, rfl, by go_num, rfl, HD4.out, HA4.out, HL4.out, HC4.out⟩
                    · obtain rfl : jj = r := by omega
                      go_wp2_with fail
                      go_roundg (jj - (ii + 1))
                      case measure => omega
                      case rel => exact ⟨ii + 1, M3, ch3, by omega, rfl, by go_num, rfl, HD3.out, HA3.out, HL3.out, HC3.out⟩
                · obtain rfl : ii = r := by omega
                  go_wp2_with fail
                  go_roundg (M2.sum + (if ch2 = true then 1 else 0))
                  case measure => exact HL2.out.lt
                  case rel => exact ⟨M2, ch2, rfl, rfl, HD2.out, HA2.out, HC2.out⟩
end Go.Proofs.Ytgamekcjjpjnnaa
