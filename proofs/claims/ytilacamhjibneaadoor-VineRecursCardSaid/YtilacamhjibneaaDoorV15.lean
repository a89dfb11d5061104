/- Which parts come of which, walked. Its conditions are its premises. -/
import Derived.Test.YtilacamhjibneaaDoorVQ
import Derived.Laws.IdiomStrings
set_option linter.unusedVariables false
namespace Go.Proofs.YtilacamhjibneaaDoor
open Go.RowKit

def rv (n g : Nat) : Value := .slice (some ⟨g, 0, none⟩) n n
def nilS : Value := .slice none 0 0
theorem info77 : (Tryd.prog.info? 77).map (fun i => (i.zero, i.size, i.bytes)) = some (some (.slice none 0 0), 1, 24) := by kernel_rfl
theorem make_rows (N : Nat) (hN : N ≤ 1000) (w : World) : (Instr.makeSlice 75 (.int .i64 N) (.int .i64 N)).run Tryd.prog w = .ok (.slice (some ⟨w.heap.size, 0, none⟩) N N) (w.alloc (.cells (Array.replicate N (.slice none 0 0)) 77)) := by
  obtain ⟨i0, hi0, hz0, hz1, hz2⟩ := info_parts info77
  have := run_make (P := Tryd.prog) w 75 77 i0 _ Tryd.underlying75 hi0 hz0 .i64 .i64 N N (by omega) (by omega) (by rw [hz2]; omega) (by omega)
  rw [this, hz1, Nat.mul_one, show (Value.slice none 0 0).cells = #[Value.slice none 0 0] from rfl, madeCells_one]
  rfl
theorem made_rows (N : Nat) (w : World) : Blk (w.alloc (.cells (Array.replicate N (.slice none 0 0)) 77)) w.heap.size 77 (List.replicate N nilS) := by
  have := Blk.new w (Array.replicate N (.slice none 0 0)) 77
  simpa [nilS] using this

/-- The rows that are there; the others are nil. -/
def outV (n : Nat) (G : List Nat) : List Value := G.map (rv n) ++ List.replicate (n - G.length) nilS
theorem outV_at {n : Nat} {G : List Nat} {k : Nat} (h : k < G.length) : (outV n G)[k]? = some (rv n G[k]) := by
  unfold outV
  rw [List.getElem?_append_left (by simpa using h), List.getElem?_map, List.getElem?_eq_getElem h]
  rfl
theorem outV_next {n : Nat} {G : List Nat} (h : G.length < n) : (outV n G)[G.length]? = some nilS := by
  unfold outV
  rw [List.getElem?_append_right (by simp), List.getElem?_replicate, if_pos (by simp; omega)]
theorem outV_set {n : Nat} {G : List Nat} (g : Nat) (h : G.length < n) : (outV n G).set G.length (rv n g) = outV n (G ++ [g]) := by
  unfold outV
  rw [List.set_append_right _ _ (by simp), List.length_map, Nat.sub_self]
  obtain ⟨m, hm⟩ : ∃ m, n - G.length = m + 1 := ⟨n - G.length - 1, by omega⟩
  rw [hm, List.replicate_succ, List.map_append, List.length_append, List.length_singleton, show n - (G.length + 1) = m by omega]
  simp

/-- The matrix in memory: the rows of the first parts. -/
structure CM (w0 w : World) (cb : Nat) (V : List (List Nat)) (G : List Nat) : Prop where
  outer : Blk w cb 77 (outV V.length G)
  rows : ∀ k (h : k < G.length), Blk w G[k] 4 (bv (comesR V k)) ∧ G[k] ≠ cb
  chg : Chg (fun _ => False) w0 w
  old : w0.heap.size ≤ cb
theorem CM.lt {w0 w : World} {cb : Nat} {V : List (List Nat)} {G : List Nat} (h : CM w0 w cb V G) : cb < w.heap.size ∧ ∀ k (hk : k < G.length), G[k] < w.heap.size := ⟨h.outer.lt, fun k hk => (h.rows k hk).1.lt⟩

theorem conv_bytes (t : List Nat) (ht : ∀ c ∈ t, c < 100) (w : World) : ∃ c w', (convert 9 52 (.string (str t))).run Tryd.prog w = .ok (.slice (some ⟨w.heap.size, 0, none⟩) t.length c) w' ∧
    (∀ k (h : k < t.length), w'.cell? ⟨w.heap.size, k, none⟩ = some (.int .u8 ((97 + t[k] : Nat) : Int))) ∧ Chg (fun _ => False) w w' ∧ w.heap.size < w'.heap.size := by
  have h := run_bytes_of_string (P := Tryd.prog) w 9 52 5 (str t) Tryd.underlying9 Tryd.underlying52 Tryd.underlying5
  rw [str_size] at h
  refine ⟨_, _, h, fun k hk => ?_, ((Chg.refl _ w).drew).alloc _, ?_⟩
  · have hc := ht _ (List.getElem_mem hk)
    generalize grownCap w t.length 0 5 = cp
    have hh : ∀ o : Obj, (w.drew.alloc o).heap[w.heap.size]? = some o := fun o => by
      show (w.heap.push o)[w.heap.size]? = _
      simp
    unfold World.cell?
    rw [hh]
    have hb : (bytesRow (str t) cp)[k]? = some (.int .u8 ((97 + t[k] : Nat) : Int)) := by
      unfold bytesRow
      rw [Array.getElem?_append_left (by simp [str]; exact hk)]
      simp [str, hk, chr]
      omega
    simpa using hb
  · show w.heap.size < (w.heap.push _).size
    simp

theorem slice_que (w : World) (g o N c : Nat) (hN : 0 < N) : (Instr.sliceAt 29 (.slice (some ⟨g, o, none⟩) N c) (some (.int .i64 1)) none none).run Tryd.prog w = .ok (.slice (some ⟨g, if c = 1 then o else o + 1, none⟩) (N - 1) (c - 1)) w := by
  obtain ⟨i0, hi0, hz0, hz1, hz2⟩ := info_parts info3
  have he : Tryd.prog.elem 29 = 3 := by kernel_rfl
  have hu : Tryd.prog.underlying 29 = some (.slice (Tryd.prog.elem 29)) := by rw [he]; exact Tryd.underlying29
  rw [run_sliceAt_slice w 29 _ _ _ _ hu, run_slice_l w 29 _ N c hu .i64 1 (by omega) (by omega), he]
  simp [sizeOf, typeInfo, hi0, hz1, sliced, Result.andThen]
  by_cases hc : c = 1
  · rw [if_pos hc, if_pos hc]
  · rw [if_neg hc, if_neg hc]
    simp [add_plain]

/-- What the search has in memory. -/
structure CB (w0 w : World) (rb g o c : Nat) (todo : List Nat) (R : List Bool) : Prop where
  que : QueB w 1 g o c todo.length (nv todo)
  row : Blk w rb 4 (bv R)
  gt : rb < g
  chg : Chg (fun k => rb ≤ k) w0 w
theorem CB.kept {w0 w w' : World} {rb g o c : Nat} {todo : List Nat} {R : List Bool} (h : CB w0 w rb g o c todo R) (hc : Chg (fun _ => False) w w') : CB w0 w' rb g o c todo R :=
  ⟨h.que.chg hc (fun x => x), hc.blk h.row (fun x => x), h.gt, h.chg.trans hc (fun _ x => x.elim)⟩
theorem CB.set {w0 w : World} {rb g o c : Nat} {todo : List Nat} {R : List Bool} (h : CB w0 w rb g o c todo R) (i : Nat) : CB w0 (w.setCell ⟨rb, i, none⟩ (.bool true)) rb g o c todo (R.set i true) := by
  have hc := (Chg.refl (fun k => k = rb) w).setCell (a := ⟨rb, i, none⟩) (.inl rfl) (.bool true)
  exact ⟨h.que.chg hc (by have := h.gt; omega), by rw [bv_set]; exact h.row.set i _, h.gt, h.chg.trans hc (fun k hk => .inl (by rw [hk]; exact Nat.le_refl _))⟩
theorem nv_app (l m : List Nat) : nv (l ++ m) = nv l ++ nv m := by simp [nv]
theorem CB.push {w0 w w6 : World} {rb g o c g6 o6 c6 m ch : Nat} {todo : List Nat} {R : List Bool} (h : CB w0 w rb g o c todo R) (hm : todo.length = m) (hq : QueB w6 1 g6 o6 c6 (m + 1) (nv todo ++ [.int .i64 (ch : Int)])) (hg : g6 = g ∨ w.heap.size ≤ g6) (hc : Chg (fun k => k = g) w w6) : CB w0 w6 rb g6 o6 c6 (todo ++ [ch]) R := by
  have h1 := h.gt
  have h2 := h.row.lt
  refine ⟨by rw [nv_app, List.length_append, hm]; exact hq, hc.blk h.row (by omega), by omega, h.chg.trans hc (fun k hk => .inl (by omega))⟩
theorem CB.tail {w0 w : World} {rb g o c n : Nat} {todo : List Nat} {R : List Bool} (h : CB w0 w rb g o c todo R) (hn : todo.length = n) (hn0 : 0 < n) : CB w0 w rb g (if c = 1 then o else o + 1) (c - 1) todo.tail R := by
  obtain ⟨m, rfl⟩ : ∃ m, n = m + 1 := ⟨n - 1, by omega⟩
  have hq := h.que
  rw [hn] at hq
  have := hq.tail
  refine ⟨?_, h.row, h.gt, h.chg⟩
  rw [List.length_tail, hn, Nat.add_sub_cancel, show nv todo.tail = (nv todo).drop 1 by cases todo <;> rfl]
  exact this
theorem CM.all {w0 wo w7 w : World} {cb rb g o c : Nat} {V : List (List Nat)} {G todo : List Nat} {R : List Bool} (hM : CM w0 wo cb V G) (h7 : Chg (fun k => k = cb) wo w7) (hs : wo.heap.size = rb) (h : CB w7 w rb g o c todo R) : Chg (fun _ => False) w0 w := by
  have h1 := hM.chg.size
  have h2 := hM.old
  exact (hM.chg.trans h7 (fun k hk => .inr (by omega))).trans h.chg (fun k hk => .inr (by omega))
theorem CM.next {w0 wo w7 w : World} {cb rb g o c : Nat} {V : List (List Nat)} {G todo : List Nat} {R : List Bool} (hM : CM w0 wo cb V G) (h7 : Chg (fun k => k = cb) wo w7) (hs : wo.heap.size = rb) (h : CB w7 w rb g o c todo R)
    (hb : Blk w7 cb 77 (outV V.length (G ++ [rb]))) (hR : R = comesR V G.length) : CM w0 w cb V (G ++ [rb]) := by
  have hl := hM.lt
  rw [hs] at hl
  refine ⟨h.chg.blk hb (by omega), fun k hk => ?_, hM.all h7 hs h, hM.old⟩
  by_cases hkl : k < G.length
  · rw [List.getElem_append_left hkl]
    have := hM.rows k hkl
    have h2 := hl.2 k hkl
    exact ⟨h.chg.blk (h7.blk this.1 this.2) (by omega), this.2⟩
  · obtain rfl : k = G.length := by simp at hk; omega
    have he : (G ++ [rb])[G.length]'hk = rb := by simp
    rw [he, ← hR]
    exact ⟨h.row, by omega⟩
theorem bf_start {V : List (List Nat)} {i : Nat} (hi : i < V.length) : BF V i [i] ((List.replicate V.length false).set i true) := by
  have hl : ((List.replicate V.length false).set i true).length = V.length := by simp
  have hs : ∀ j, atB ((List.replicate V.length false).set i true) j = true → i = j := fun j hj => by
    rw [atB_set _ _ _ _ (by simpa using hi)] at hj
    by_cases h : i = j
    · exact h
    · rw [if_neg h] at hj
      unfold atB at hj
      rw [List.getElem?_replicate] at hj
      split at hj <;> simp at hj
  refine ⟨hl, ?_, ?_, ?_, ?_⟩
  · rw [atB_set _ _ _ _ (by simpa using hi), if_pos rfl]
  · intro j hj
    obtain rfl := hs j hj
    exact .refl
  · intro j hj
    simp at hj
    subst hj
    exact ⟨by rw [atB_set _ _ _ _ (by simpa using hi), if_pos rfl], hi⟩
  · intro j hj
    obtain rfl := hs j hj
    exact .inl (by simp)
theorem bfsF_nil (V : List (List Nat)) (f : Nat) (R : List Bool) : bfsF V f [] R = R := by cases f <;> rfl

set_option maxRecDepth 100000 in
set_option maxHeartbeats 1000000 in
theorem comes_any (V : List (List Nat)) (hV : WF V) (b off cap : Nat) (w : World) (hv : VAt w b off V) :
    Calls Tryd.prog 84 #[.slice (some ⟨b, off, none⟩) V.length cap] w fun e w' => (∃ cb G, e = .returned (.slice (some ⟨cb, 0, none⟩) V.length V.length) ∧ G.length = V.length ∧ CM w w' cb V G) ∧ Chg (fun _ => False) w w' := by
  have hn6 := hV.le
  have hmk := make_rows V.length (by omega)
  have hmb := make_bools V.length (by omega)
  have HI3 : Hid (∃ i0, Tryd.prog.info? 3 = some i0 ∧ i0.zero = some (.int .i64 0) ∧ i0.size = 1 ∧ i0.bytes = 8) := Lib.hid (by
    obtain ⟨i0, h0, h1, h2, h3⟩ := info_parts info3
    exact ⟨i0, h0, h1, h2, h3⟩)
  have HV := Lib.hid hv; have HWF := Lib.hid hV
  have HB0 := Lib.hid (made_rows V.length w); have HC0 := Lib.hid ((Chg.refl (fun _ => False) w).alloc (.cells (Array.replicate V.length (.slice none 0 0)) 77))
  obtain ⟨cb, hcb⟩ : ∃ cb, w.heap.size = cb := ⟨_, rfl⟩
  rw [hcb] at HB0
  have HCB := Lib.hid hcb
  clear hv hV
  go_enter Tryd.func84, Tryd.ntmps84
  go_wp2_with fail
  clear hcb hmk
  have HM0 : Hid (CM w (w.alloc (.cells (Array.replicate V.length (.slice none 0 0)) 77)) cb V []) := Lib.hid ⟨by unfold outV; simpa using HB0.out, fun k hk => by simp at hk, HC0.out, by rw [HCB.out]; exact Nat.le_refl _⟩
  generalize w.alloc (.cells (Array.replicate V.length (.slice none 0 0)) 77) = W0 at HM0 ⊢
  clear HB0 HC0
  go_loopg [13] V.length (fun gm iv wr => ∃ (i : Nat) (G : List Nat), i ≤ V.length ∧ gm = V.length - i ∧ iv = .int .i64 i ∧ G.length = i ∧ CM w wr cb V G)
  case atStart => exact ⟨0, [], by omega, by omega, rfl, rfl, HM0.out⟩
  case round =>
    clear HM0
    obtain ⟨i, G, hi, rfl, rfl, hG, hM⟩ := hrel
    have HG := Lib.hid hG; have HM := Lib.hid hM
    clear hG hM
    by_cases hlt : i < V.length
    · have d0 : decide (i < V.length) = true := by simpa using hlt
      obtain ⟨rb, hrb⟩ : ∃ rb, wr.heap.size = rb := ⟨_, rfl⟩
      have hcr := HM.out.lt.1
      rw [hrb] at hcr
      have HRB := Lib.hid hrb
      have HB1 := made_bools V.length wr
      rw [hrb] at HB1
      have HO1 := HM.out.outer.alloc (.cells (Array.replicate V.length (.bool false)) 4)
      have hO := HM.out.outer
      have c1 := HO1.cell_some (outV_next (by rw [HG.out]; exact hlt))
      rw [HG.out] at c1
      have f1 := HO1.free i
      have hs7 : ∀ W7, W7 = ((wr.setCell ⟨cb, i, none⟩ (rv V.length rb)).alloc (.cells (Array.replicate V.length (.bool false)) 4)).alloc (.cells #[.int .i64 (i : Int)] 3) →
          Blk W7 cb 77 (outV V.length (G ++ [rb])) ∧ Blk W7 rb 4 (bv (List.replicate V.length false)) ∧ Blk W7 (rb + 1) 3 (nv [i]) ∧ Chg (fun k => k = cb) wr W7 := by
        rintro W7 rfl
        have hsz : (wr.setCell ⟨cb, i, none⟩ (rv V.length rb)).heap.size = rb := by rw [← hrb]; simp [World.setCell]
        refine ⟨?_, ?_, ?_, ?_⟩
        · have := ((hO.set i (rv V.length rb)).alloc (.cells (Array.replicate V.length (.bool false)) 4)).alloc (.cells #[.int .i64 (i : Int)] 3)
          rw [← HG.out, outV_set rb (by rw [HG.out]; exact hlt), HG.out] at this
          exact this
        · have := (made_bools V.length (wr.setCell ⟨cb, i, none⟩ (rv V.length rb))).alloc (.cells #[.int .i64 (i : Int)] 3)
          rw [hsz] at this
          exact this
        · have := Blk.new ((wr.setCell ⟨cb, i, none⟩ (rv V.length rb)).alloc (.cells (Array.replicate V.length (.bool false)) 4)) #[.int .i64 (i : Int)] 3
          rw [show ((wr.setCell ⟨cb, i, none⟩ (rv V.length rb)).alloc (.cells (Array.replicate V.length (.bool false)) 4)).heap.size = rb + 1 by rw [← hsz]; simp [World.alloc]] at this
          exact this
        · exact ((((Chg.refl (fun k => k = cb) wr).setCell (a := ⟨cb, i, none⟩) (.inl rfl) _).alloc _).alloc _)
      go_upto_region 7 with (fail)
      obtain ⟨W7, hW7⟩ : ∃ W7, ((wr.setCell ⟨cb, i, none⟩ (rv V.length rb)).alloc (.cells (Array.replicate V.length (.bool false)) 4)).alloc (.cells #[.int .i64 (i : Int)] 3) = W7 := ⟨_, rfl⟩
      obtain ⟨b1, b2, b3, hc7⟩ := hs7 W7 hW7.symm
      unfold rv at hW7
      rw [hW7]
      clear hW7 hs7 c1 f1 HB1 HO1 hO
      have c2 := b1.cell_some (outV_at (k := i) (by simp; rw [HG.out]; omega))
      rw [show (G ++ [rb])[i]'(by simp; rw [HG.out]; omega) = rb by simp [← HG.out]] at c2
      unfold rv at c2
      have c3 := b2.cell_some (bv_at (i := i) (by simpa using hlt))
      have f3 := b2.free i
      have HB1 := Lib.hid b1; have HB2 := Lib.hid b2; have HB3 := Lib.hid b3; have HC7 := Lib.hid hc7
      clear b1 b2 b3 hc7 hrb hmb
      have HST : Hid (CB W7 (W7.setCell ⟨rb, i, none⟩ (.bool true)) rb (rb + 1) 0 1 [i] ((List.replicate V.length false).set i true)) := Lib.hid
        ((show CB W7 W7 rb (rb + 1) 0 1 [i] (List.replicate V.length false) from ⟨QueB.of_blk HB3.out 1 rfl, HB2.out, by omega, Chg.refl _ _⟩).set i)
      go_wp2_with fail
      clear c2 c3 f3
      generalize W7.setCell ⟨rb, i, none⟩ (.bool true) = W8 at HST ⊢
      go_loopg [5] V.length (fun gm tv wr => ∃ (f : Nat) (todo : List Nat) (R : List Bool) (g o c : Nat), gm = todo.length + nf R ∧ gm ≤ f ∧ f ≤ V.length ∧ tv = .slice (some ⟨g, o, none⟩) todo.length c ∧ CB W7 wr rb g o c todo R ∧ BF V i todo R ∧ bfsF V f todo R = comesR V i)
      case atStart => exact ⟨V.length, [i], _, rb + 1, 0, 1, by have := nf_fresh V.length i hlt; simp only [List.length_singleton]; omega, Nat.le_refl _, Nat.le_refl _, rfl, HST.out, bf_start hlt, rfl⟩
      case round =>
        clear HST
        obtain ⟨f, todo, R, g, o, c, rfl, hf, hfV, rfl, hcb, hbf, hres⟩ := hrel
        have HCB := Lib.hid hcb; have HBF := Lib.hid hbf; have HRES := Lib.hid hres; have HF := Lib.hid hf
        clear hcb hbf hres hf
        cases todo with
        | nil =>
          have HR := Lib.hid (show R = comesR V i by rw [← HRES.out, bfsF_nil])
          go_wp2_with fail
          go_roundg (V.length - (i + 1))
          case measure => omega
          case rel => exact ⟨i + 1, G ++ [rb], by omega, rfl, by go_num, by rw [List.length_append, HG.out]; rfl, HM.out.next HC7.out HRB.out HCB.out HB1.out (by rw [HR.out, HG.out])⟩
        | cons x todo =>
          have hx := (HBF.out.inn x (by simp)).2
          have c0 := HCB.out.que.at_ 0 (.int .i64 (x : Int)) rfl
          rw [Nat.add_zero] at c0
          have HCW := Lib.hid (HM.out.all HC7.out HRB.out HCB.out)
          have v1 := (HV.out.chg HCW.out (fun x => x)) x hx
          rw [← part_lt hx] at v1
          have HPL := Lib.hid (HWF.out.part_le x)
          have HSTEP := Lib.hid (HBF.out.step HWF.out)
          have HFX : Hid (∃ F, f = F + 1 ∧ bfsF V f (x :: todo) R = bfsF V F (bfsP (part V x) (x :: todo) R (part V x).length).1.tail (bfsP (part V x) (x :: todo) R (part V x).length).2) := Lib.hid (by
            have hF := HF.out
            simp only [List.length_cons] at hF
            obtain ⟨F, rfl⟩ : ∃ F, f = F + 1 := ⟨f - 1, by omega⟩
            exact ⟨F, rfl, rfl⟩)
          have hRl := HBF.out.len
          have HRL := Lib.hid hRl
          obtain ⟨p, hp⟩ : ∃ p, part V x = p := ⟨_, rfl⟩
          rw [hp] at v1 HPL HSTEP HFX
          clear hp hRl
          have hpc : ∀ c ∈ p, c < 100 := fun c hc => by have := HPL.out.2 c hc; omega
          obtain ⟨cc, w9, hcv, hby, hc9, hsz9⟩ := conv_bytes p hpc wr
          obtain ⟨pb, hpb⟩ : ∃ pb, wr.heap.size = pb := ⟨_, rfl⟩
          have HGP := Lib.hid (show g < pb by rw [← hpb]; exact HCB.out.que.lt)
          rw [hpb] at hcv hby hsz9
          have HBY := Lib.hid hby; have HSZ9 := Lib.hid hsz9
          have HB9 := Lib.hid (HCB.out.kept hc9)
          have HP8 := Lib.hid HPL.out.1; have HPC := Lib.hid HPL.out.2
          clear hpb hpc hby hsz9 hc9
          have hlen : (x :: todo).length = todo.length + 1 := rfl
          obtain ⟨l, hl⟩ : ∃ l, x :: todo = l := ⟨_, rfl⟩
          have HL := Lib.hid hl
          rw [hl] at hlen HSTEP HFX HB9 HF ⊢
          clear hl
          obtain ⟨n, hn⟩ : ∃ n, l.length = n := ⟨_, rfl⟩
          have HN := Lib.hid hn
          rw [hn] at hlen ⊢
          clear hn
          have hn0 : 0 < n := by omega
          have dn : decide ((0 : Int) < (n : Int)) = true := by simp; omega
          clear hlen
          go_wp2_with fail
          clear dn hn0 c0 v1 hcv
          go_loopg [43, 5] p.length (fun gm kv tv wr => ∃ k g o c : Nat, k ≤ p.length ∧ gm = p.length - k ∧ kv = .int .i64 k ∧ tv = .slice (some ⟨g, o, none⟩) (bfsP p l R k).1.length c ∧ CB W7 wr rb g o c (bfsP p l R k).1 (bfsP p l R k).2 ∧ g ≠ pb ∧ pb < wr.heap.size ∧ rb < pb ∧ ∀ k (h : k < p.length), wr.cell? ⟨pb, k, none⟩ = some (.int .u8 ((97 + p[k] : Nat) : Int)))
          case atStart => exact ⟨0, g, o, c, by omega, by omega, rfl, by show _ = Value.slice (some ⟨g, o, none⟩) l.length c; rw [HN.out], HB9.out, by have := HGP.out; omega, HSZ9.out, by have := HGP.out; have := HB9.out.gt; omega, HBY.out⟩
          case round =>
            clear HB9 HBY HSZ9 HGP HCB
            obtain ⟨k, g, o, c, hk, rfl, rfl, rfl, hcb, hgp, hps, hrp, hby⟩ := hrel
            have hinv := bfsP_inv (todo := l) HPC.out HRL.out k hk
            have hmeas := hinv.meas
            have HCB := Lib.hid hcb; have HGP := Lib.hid hgp; have HPS := Lib.hid hps; have HRP := Lib.hid hrp; have HBY := Lib.hid hby; have HSL := Lib.hid hinv.len
            have HPOS := Lib.hid (show 0 < (bfsP p l R k).1.length by obtain ⟨more, h1, _⟩ := hinv.pre; rw [h1, List.length_append, ← HL.out, List.length_cons]; omega)
            clear hcb hgp hps hrp hby hinv
            obtain ⟨s, hs⟩ : ∃ s, bfsP p l R k = s := ⟨_, rfl⟩
            have HS := Lib.hid hs
            rw [hs] at HCB HSL HPOS hmeas ⊢
            clear hs
            obtain ⟨m, hm⟩ : ∃ m, s.1.length = m := ⟨_, rfl⟩
            have hm6 : m ≤ 6 := by have := HF.out; omega
            have HM1 := Lib.hid hm
            rw [hm] at HPOS ⊢
            clear hm hmeas
            by_cases hkl : k < p.length
            · have d3 : decide (k < p.length) = true := by simpa using hkl
              have hcn := HPC.out _ (List.getElem_mem hkl)
              have y1 := HBY.out k hkl
              have hp8 := HP8.out
              have hu8 := u8_chr p[k] (by omega)
              have hcr2 : ¬ rb ≤ cb := by omega
              have c1 := (HCB.out.chg.blk HB1.out hcr2).cell_some (outV_at (k := i) (by simp; rw [HG.out]; omega))
              rw [show (G ++ [rb])[i]'(by simp; rw [HG.out]; omega) = rb by simp [← HG.out]] at c1
              unfold rv at c1
              have k1 := HCB.out.row.cell_some (bv_at (i := p[k]) (by rw [HSL.out]; omega))
              have f1 := HCB.out.row.free p[k]
              have HSK := Lib.hid (show bfsP p l R (k + 1) = if atB s.2 p[k] = true then s else (s.1 ++ [p[k]], s.2.set p[k] true) by rw [bfsP, at0_lt_of hkl, HS.out])
              obtain ⟨ch, hc⟩ : ∃ ch, p[k] = ch := ⟨_, rfl⟩
              rw [hc] at hcn hu8 HSK k1 f1 y1
              obtain ⟨C, hC⟩ : ∃ C, 97 + ch = C := ⟨_, rfl⟩
              rw [hC] at hu8 y1
              clear hc hC
              have hci : (ch : Int) < (V.length : Int) := by omega
              obtain ⟨x1, hx1⟩ : ∃ x1, atB s.2 ch = x1 := ⟨_, rfl⟩
              rw [hx1] at k1 HSK
              clear hx1
              cases x1
              · obtain ⟨qb, hqb⟩ : ∃ qb, wr.heap.size = qb := ⟨_, rfl⟩
                have HC2 := HCB.out.set ch
                have HQ := Lib.hid ((HC2.kept ((Chg.refl (fun _ => False) _).alloc (.cells #[.int .i64 (ch : Int)] 3))))
                have HX := Lib.hid (Blk.new (wr.setCell ⟨rb, ch, none⟩ (.bool true)) #[.int .i64 (ch : Int)] 3)
                rw [show (wr.setCell ⟨rb, ch, none⟩ (.bool true)).heap.size = qb by rw [← hqb]; simp [World.setCell]] at HX
                have HSZ : Hid (((wr.setCell ⟨rb, ch, none⟩ (.bool true)).alloc (.cells #[.int .i64 (ch : Int)] 3)).heap.size = qb + 1) := Lib.hid (by rw [← hqb]; simp [World.alloc, World.setCell])
                have HPQ := Lib.hid (show pb < qb by rw [← hqb]; exact HPS.out)
                have hqq := HQ.out.que
                rw [HM1.out] at hqq
                have HQQ := Lib.hid hqq
                clear hqq HC2
                go_wp2_with (at_builtin; refine wpList_append_que rfl (.tmp 63) (.tmp 67) 29 rfl 3 HI3.out.choose _ 1 8 Tryd.underlying29 HI3.out.choose_spec.1 HI3.out.choose_spec.2.1 HI3.out.choose_spec.2.2.1 HI3.out.choose_spec.2.2.2 rfl (by decide) g o c m _ (by simp [Act.eval]) HQQ.out ⟨qb, 0, none⟩ 1 1 [.int .i64 (ch : Int)] (by simp [Act.eval]) rfl (by decide) (fun j v hj => by rw [add_plain, Nat.zero_add]; exact HX.out.cell_some hj) (by intro v hv; simp at hv; subst hv; rfl) (by unfold maxLen; omega) (by omega) ?_)
                intro g6 o6 c6 w6 hq6 hg6 hc6
                have HC6 := Lib.hid (((((Chg.refl (fun k => k = rb ∨ k = g) wr).setCell (a := ⟨rb, ch, none⟩) (.inl (.inl rfl)) (.bool true)).alloc (.cells #[.int .i64 (ch : Int)] 3))).trans hc6 (fun k hk => .inl (.inr hk)))
                have HCB6 := Lib.hid (HQ.out.push HM1.out hq6 (by rw [HSZ.out]; exact hg6) hc6)
                have HG6 := Lib.hid (show g6 ≠ pb by
                  rcases hg6 with h | h
                  · have := HGP.out; omega
                  · have := HPQ.out; omega)
                clear hq6 hg6 hc6 HQ HX HQQ hqb
                go_wp2_with fail
                go_roundg (p.length - (k + 1))
                case measure => omega
                case rel =>
                  rw [if_neg (by simp)] at HSK
                  refine ⟨k + 1, g6, o6, c6, by omega, rfl, by go_num, ?_, ?_, HG6.out, Nat.lt_of_lt_of_le HPS.out HC6.out.size, HRP.out, fun k hk => HC6.out.cell_some (HBY.out k hk) (by have := HGP.out; have := HRP.out; dsimp only; omega)⟩
                  · rw [HSK.out]; show _ = Value.slice _ (s.1 ++ [ch]).length _; rw [List.length_append, HM1.out]; rfl
                  · rw [HSK.out]; exact HCB6.out
              · rw [if_pos rfl] at HSK
                go_wp2_with fail
                go_roundg (p.length - (k + 1))
                case measure => omega
                case rel =>
                  refine ⟨k + 1, g, o, c, by omega, rfl, by go_num, ?_, ?_, HGP.out, HPS.out, HRP.out, HBY.out⟩
                  · rw [HSK.out, HM1.out]
                  · rw [HSK.out]; exact HCB.out
            · obtain rfl : k = p.length := by omega
              rw [HS.out] at HSTEP HFX
              have hm0 : 0 < m := HPOS.out
              have hsl := fun w' => slice_que w' g o m c hm0
              obtain ⟨o2, ho2⟩ : ∃ o2, (if c = 1 then o else o + 1) = o2 := ⟨_, rfl⟩
              simp only [ho2] at hsl
              have HT := Lib.hid (HCB.out.tail HM1.out hm0)
              rw [ho2] at HT
              have HTL := Lib.hid (show s.1.tail.length = m - 1 by rw [List.length_tail, HM1.out])
              clear ho2
              go_wp2_with fail
              obtain ⟨F, rfl, hFF⟩ := HFX.out
              go_roundg (s.1.tail.length + nf s.2)
              case measure => have := HSTEP.out.2; have := congrArg List.length HL.out; omega
              case rel =>
                refine ⟨F, s.1.tail, s.2, g, o2, c - 1, rfl, ?_, by omega, by rw [HTL.out], HT.out, HSTEP.out.1, ?_⟩
                · have := HSTEP.out.2; have := HF.out; omega
                · rw [← hFF, ← HL.out]; exact HRES.out
    · obtain rfl : i = V.length := by omega
      go_wp2_with fail
      go_ret
      exact ⟨⟨cb, G, rfl, HG.out, HM.out⟩, HM.out.chg⟩
end Go.Proofs.YtilacamhjibneaaDoor
