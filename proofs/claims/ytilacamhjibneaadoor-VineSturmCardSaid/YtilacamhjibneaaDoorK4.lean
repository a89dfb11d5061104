/- Texts on the vines, laid together (V31, V32, V33, V34, V35, V36, V37, V38, V39, V40). Their conditions are their premises. -/
import Derived.Test.YtilacamhjibneaaDoorK3
set_option linter.unusedVariables false
/- How long each part is after so many years: the table; far and plus. Their conditions are their premises. -/
namespace Go.Proofs.YtilacamhjibneaaDoor
open Go.RowKit

def M63 : Nat := 9223372036854775808
theorem far_any (a b : Nat) (ha : a ≤ M63) (hb : b ≤ M63) (w : World) : Calls Tryd.prog 81 #[.int .u64 (a : Int), .int .u64 (b : Int)] w fun e w' => e = .returned (.int .u64 ((min (a + b) M63 : Nat) : Int)) ∧ w' = w := by
  unfold M63 at ha hb
  have h1 : IntKind.u64.wrap (9223372036854775808 - (b : Int)) = 9223372036854775808 - (b : Int) := by simp [IntKind.wrap, IntKind.bits, IntKind.signed]; omega
  by_cases h : 9223372036854775808 < a + b
  · have hd : decide (9223372036854775808 - (b : Int) < (a : Int)) = true := by simp; omega
    go_enter Tryd.func81, Tryd.ntmps81
    go_wp2_with fail
    all_goals
      go_ret
      exact ⟨ret_int (by unfold M63; omega), rfl⟩
  · have hd : decide (9223372036854775808 - (b : Int) < (a : Int)) = false := by simp; omega
    have h2 : IntKind.u64.wrap ((a : Int) + (b : Int)) = (a : Int) + (b : Int) := by simp [IntKind.wrap, IntKind.bits, IntKind.signed]; omega
    go_enter Tryd.func81, Tryd.ntmps81
    go_wp2_with fail
    all_goals
      go_ret
      exact ⟨ret_int (by unfold M63; omega), rfl⟩
theorem rplus_any (a b : Nat) (ha : a ≤ M63) (hb : b ≤ M63) (w : World) : Calls Tryd.prog 98 #[.int .u64 (a : Int), .int .u64 (b : Int)] w fun e w' => e = .returned (.int .u64 ((min (a + b) M63 : Nat) : Int)) ∧ w' = w := by
  unfold M63 at ha hb
  have h1 : IntKind.u64.wrap (9223372036854775808 - (b : Int)) = 9223372036854775808 - (b : Int) := by simp [IntKind.wrap, IntKind.bits, IntKind.signed]; omega
  by_cases h : 9223372036854775808 ≤ a + b
  · have hd : decide (9223372036854775808 - (b : Int) ≤ (a : Int)) = true := by simp; omega
    go_enter Tryd.func98, Tryd.ntmps98
    go_wp2_with fail
    all_goals
      go_ret
      exact ⟨ret_int (by unfold M63; omega), rfl⟩
  · have hd : decide (9223372036854775808 - (b : Int) ≤ (a : Int)) = false := by simp; omega
    have h2 : IntKind.u64.wrap ((a : Int) + (b : Int)) = (a : Int) + (b : Int) := by simp [IntKind.wrap, IntKind.bits, IntKind.signed]; omega
    go_enter Tryd.func98, Tryd.ntmps98
    go_wp2_with fail
    all_goals
      go_ret
      exact ⟨ret_int (by unfold M63; omega), rfl⟩

/-- The first k letters' lengths, added. -/
def tbP (s : List Nat) (R : List Nat) : Nat → Nat
  | 0 => 0
  | k + 1 => min (tbP s R k + at0 R (at0 s k)) M63
def tab (V : List (List Nat)) : Nat → List Nat
  | 0 => List.replicate V.length 1
  | y + 1 => (List.range V.length).map fun i => tbP (part V i) (tab V y) (part V i).length
def lngV (s : List Nat) (R : List Nat) : Nat := tbP s R s.length
theorem tbP_le (s R : List Nat) : ∀ k, tbP s R k ≤ M63
  | 0 => Nat.zero_le _
  | k + 1 => Nat.min_le_right _ _
theorem tab_len (V : List (List Nat)) : ∀ y, (tab V y).length = V.length
  | 0 => by simp [tab]
  | y + 1 => by simp [tab]
theorem tab_le (V : List (List Nat)) (y c : Nat) : at0 (tab V y) c ≤ M63 := by
  unfold at0
  cases h : (tab V y)[c]? with
  | none => simp
  | some x =>
    have hx := List.mem_of_getElem? h
    cases y with
    | zero =>
      have := List.eq_of_mem_replicate hx
      subst this
      decide
    | succ y =>
      obtain ⟨i, _, rfl⟩ := List.mem_map.1 hx
      exact tbP_le _ _ _
theorem tab_zero {V : List (List Nat)} {c : Nat} (h : c < V.length) : at0 (tab V 0) c = 1 := by
  unfold at0 tab
  rw [List.getElem?_replicate, if_pos h]
  rfl
theorem tab_succ {V : List (List Nat)} {y c : Nat} (h : c < V.length) : at0 (tab V (y + 1)) c = lngV (part V c) (tab V y) := by
  unfold at0 lngV
  rw [tab, List.getElem?_map, List.getElem?_range h]
  rfl

def uv (l : List Nat) : List Value := l.map fun (x : Nat) => .int .u64 (x : Int)
theorem uv_at {N : List Nat} {i : Nat} (h : i < N.length) : (uv N)[i]? = some (.int .u64 (at0 N i : Nat)) := by
  unfold uv at0
  rw [List.getElem?_map, List.getElem?_eq_getElem h]
  rfl
theorem uv_set (N : List Nat) (i v : Nat) : uv (N.set i v) = (uv N).set i (.int .u64 (v : Int)) := by
  unfold uv
  rw [List.map_set]
/-- A row's cells. -/
def RowAt (w : World) (g : Nat) (R : List Nat) : Prop := ∀ j, j < R.length → w.cell? ⟨g, j, none⟩ = some (.int .u64 (at0 R j : Nat))
theorem RowAt.chg {S : Nat → Prop} {w w' : World} {g : Nat} {R : List Nat} (h : RowAt w g R) (hc : Chg S w w') (hn : ¬ S g) : RowAt w' g R := fun j hj => hc.cell_some (h j hj) hn
theorem row_of_blk {w : World} {g e : Nat} {R : List Nat} (h : Blk w g e (uv R)) : RowAt w g R := fun j hj => h.cell_some (uv_at hj)
/-- The table's cells, up to the year Y. -/
def TabAt (w : World) (tb off : Nat) (V : List (List Nat)) (Y : Nat) : Prop := ∀ y, y ≤ Y → ∃ g c, w.cell? ⟨tb, off + y, none⟩ = some (.slice (some ⟨g, 0, none⟩) V.length c) ∧ RowAt w g (tab V y)
theorem TabAt.chg {w w' : World} {tb off : Nat} {V : List (List Nat)} {Y : Nat} (h : TabAt w tb off V Y) (hc : Chg (fun _ => False) w w') : TabAt w' tb off V Y := fun y hy => by
  obtain ⟨g, c, h1, h2⟩ := h y hy
  exact ⟨g, c, hc.cell_some h1 (fun x => x), h2.chg hc (fun x => x)⟩
theorem info88 : (Tryd.prog.info? 88).map (fun i => (i.zero, i.size, i.bytes)) = some (some (.int .u64 0), 1, 8) := by kernel_rfl
theorem info90 : (Tryd.prog.info? 90).map (fun i => (i.zero, i.size, i.bytes)) = some (some (.slice none 0 0), 1, 24) := by kernel_rfl
theorem make_row (N : Nat) (hN : N ≤ 2000) (w : World) : (Instr.makeSlice 90 (.int .i64 N) (.int .i64 N)).run Tryd.prog w = .ok (.slice (some ⟨w.heap.size, 0, none⟩) N N) (w.alloc (.cells (Array.replicate N (.int .u64 0)) 88)) := by
  obtain ⟨i0, hi0, hz0, hz1, hz2⟩ := info_parts info88
  have := run_make (P := Tryd.prog) w 90 88 i0 _ Tryd.underlying90 hi0 hz0 .i64 .i64 N N (by omega) (by omega) (by rw [hz2]; omega) (by omega)
  rw [this, hz1, Nat.mul_one, show (Value.int .u64 0).cells = #[Value.int .u64 0] from rfl, madeCells_one]
  rfl
theorem made_row (N : Nat) (w : World) : Blk (w.alloc (.cells (Array.replicate N (.int .u64 0)) 88)) w.heap.size 88 (uv (List.replicate N 0)) := by
  have := Blk.new w (Array.replicate N (.int .u64 0)) 88
  simpa [uv] using this

set_option maxRecDepth 100000 in
theorem long_any (s R : List Nat) (n : Nat) (hn : n ≤ 50) (hs : ∀ c ∈ s, c < n) (hR : R.length = n) (hRl : ∀ c, at0 R c ≤ M63) (hsl : s.length ≤ 200000) (g c : Nat) (w : World) (hr : RowAt w g R) :
    Calls Tryd.prog 74 #[.string (str s), .slice (some ⟨g, 0, none⟩) n c] w fun e w' => e = .returned (.int .u64 (lngV s R : Nat)) ∧ w' = w := by
  have HS := Lib.hid hs; have HR := Lib.hid hr; have HRL := Lib.hid hR
  have HL := Lib.hid hRl
  have hsz := str_size s
  clear hs hr hR hRl
  go_enter Tryd.func74, Tryd.ntmps74
  go_wp2_with fail
  go_loopg [6, 5] s.length (fun gm kv sv wr => ∃ k : Nat, k ≤ s.length ∧ gm = s.length - k ∧ kv = .int .i64 k ∧ sv = .int .u64 (tbP s R k : Nat) ∧ wr = w)
  case atStart => exact ⟨0, by omega, by omega, rfl, rfl, rfl⟩
  case round =>
    obtain ⟨k, hk, rfl, rfl, rfl, rfl⟩ := hrel
    by_cases hlt : k < s.length
    · have d0 : decide (k < s.length) = true := by simpa using hlt
      have hcn := HS.out _ (List.getElem_mem hlt)
      have hidx := index_chr hlt (by omega)
      have hu8 := u8_chr s[k] (by omega)
      have r1 := HR.out s[k] (by rw [HRL.out]; exact hcn)
      have HX := Lib.hid (show tbP s R (k + 1) = min (tbP s R k + at0 R s[k]) M63 by rw [tbP, at0_lt_of hlt])
      have HP := Lib.hid (rplus_any (tbP s R k) (at0 R s[k]) (tbP_le s R k) (HL.out _) wr)
      obtain ⟨d, hd⟩ : ∃ d, s[k] = d := ⟨_, rfl⟩
      rw [hd] at hcn hu8 r1 HX HP
      simp only [hd] at hidx
      obtain ⟨D, hD⟩ : ∃ D, 97 + d = D := ⟨_, rfl⟩
      rw [hD] at hu8
      simp only [hD] at hidx
      obtain ⟨x, hx⟩ : ∃ x, at0 R d = x := ⟨_, rfl⟩
      obtain ⟨y, hy⟩ : ∃ y, tbP s R k = y := ⟨_, rfl⟩
      rw [hx] at r1 HX HP
      rw [hy] at HX HP ⊢
      clear hd hD hx hy
      have hdi : (d : Int) < (n : Int) := by omega
      go_wp2_with fail
      refine HP.out.mono ?_
      rintro e w1 ⟨rfl, rfl⟩
      go_wp2_with fail
      go_roundg (s.length - (k + 1))
      case measure => omega
      case rel => exact ⟨k + 1, by omega, rfl, by go_num, by rw [HX.out], rfl⟩
    · obtain rfl : k = s.length := by omega
      go_wp2_with fail
      go_ret
      exact ⟨rfl, rfl⟩
end Go.Proofs.YtilacamhjibneaaDoor

/- The reference's table, walked. Its conditions are its premises. -/
namespace Go.Proofs.YtilacamhjibneaaDoor
open Go.RowKit

/-- The row of which the first p parts are there. -/
def prF (R : List Nat) (n p : Nat) : List Nat := R.take p ++ List.replicate (n - p) 0
theorem prF_len {R : List Nat} {n p : Nat} (hR : R.length = n) (hp : p ≤ n) : (prF R n p).length = n := by
  unfold prF
  rw [List.length_append, List.length_take, List.length_replicate]
  omega
theorem prF_done {R : List Nat} {n : Nat} (hR : R.length = n) : prF R n n = R := by
  unfold prF
  rw [Nat.sub_self, List.take_of_length_le (by omega)]
  simp
theorem prF_next {R : List Nat} {n p : Nat} (hR : R.length = n) (hp : p < n) : (prF R n p).set p (at0 R p) = prF R n (p + 1) := by
  unfold prF
  have h1 : (R.take p).length = p := by rw [List.length_take]; omega
  rw [List.set_append_right _ _ (by omega), h1, Nat.sub_self]
  obtain ⟨m, hm⟩ : ∃ m, n - p = m + 1 := ⟨n - p - 1, by omega⟩
  rw [hm, List.replicate_succ, List.set_cons_zero, show n - (p + 1) = m by omega, List.take_succ_eq_append_getElem (by omega), at0_lt_of (by omega), List.append_assoc]
  rfl
theorem prF_set_zero {R : List Nat} {n p : Nat} (hR : R.length = n) (hp : p < n) : (prF R n p).set p 0 = prF R n p := by
  unfold prF
  have h1 : (R.take p).length = p := by rw [List.length_take]; omega
  rw [List.set_append_right _ _ (by omega), h1, Nat.sub_self]
  obtain ⟨m, hm⟩ : ∃ m, n - p = m + 1 := ⟨n - p - 1, by omega⟩
  rw [hm, List.replicate_succ, List.set_cons_zero]

/-- The table so far: the rows of the blocks G. -/
structure RT (w0 w : World) (V : List (List Nat)) (v : Value) (G : List Nat) : Prop where
  own : w.ownsRow w0.heap.size 90 1 v G.length (G.map (rv V.length))
  rows : ∀ y (h : y < G.length), RowAt w G[y] (tab V y) ∧ v.ownBlock ≠ some G[y] ∧ G[y] < w.heap.size
  chg : Chg (fun _ => False) w0 w
theorem RT.kept {w0 w w' : World} {V : List (List Nat)} {v : Value} {G : List Nat} (h : RT w0 w V v G) (hc : Chg (fun _ => False) w w') : RT w0 w' V v G :=
  ⟨owns_chg h.own hc, fun y hy => ⟨(h.rows y hy).1.chg hc (fun x => x), (h.rows y hy).2.1, Nat.lt_of_lt_of_le (h.rows y hy).2.2 hc.size⟩, h.chg.trans hc (fun _ x => x.elim)⟩
/-- A row is put at the end. -/
theorem RT.push {w0 w w2 : World} {V : List (List Nat)} {v v' : Value} {G : List Nat} {rb : Nat} (h : RT w0 w V v G) (hr : RowAt w rb (tab V G.length)) (hrb : rb < w.heap.size) (hne : v.ownBlock ≠ some rb)
    (ho : w2.ownsRow w0.heap.size 90 1 v' (G.length + 1) (G.map (rv V.length) ++ [rv V.length rb])) (hg : w.grownBy w2 v.ownBlock) (htwo : v'.ownBlock = v.ownBlock ∨ ∃ g, w.heap.size ≤ g ∧ v'.ownBlock = some g) : RT w0 w2 V v' (G ++ [rb]) := by
  have hc := Chg.of_grownRow hg
  have hown : ∀ k, v.ownBlock = some k → w0.heap.size ≤ k := fun k hk => (h.own.lt _ hk).1
  refine ⟨?_, fun y hy => ?_, h.chg.trans hc (fun k hk => .inr (hown k hk.symm))⟩
  · rw [List.length_append, List.map_append]
    exact ho
  · have key : ∀ g, g < w.heap.size → v.ownBlock ≠ some g → v'.ownBlock ≠ some g := fun g hg1 hg2 e => by
      rcases htwo with h1 | ⟨g', h1, h2⟩
      · rw [h1] at e; exact hg2 e
      · rw [h2] at e; cases e; omega
    by_cases hyl : y < G.length
    · rw [List.getElem_append_left hyl]
      obtain ⟨h1, h2, h3⟩ := h.rows y hyl
      exact ⟨h1.chg hc (fun e => h2 e.symm), key _ h3 h2, Nat.lt_of_lt_of_le h3 hc.size⟩
    · obtain rfl : y = G.length := by simp at hy; omega
      have he : (G ++ [rb])[G.length]'hy = rb := by simp
      rw [he]
      exact ⟨hr.chg hc (fun e => hne e.symm), key _ hrb hne, Nat.lt_of_lt_of_le hrb hc.size⟩
theorem RT.tab {w0 w : World} {V : List (List Nat)} {v : Value} {G : List Nat} (h : RT w0 w V v G) (h0 : 0 < G.length) : ∃ g c, v = .slice (some ⟨g, 0, none⟩) G.length c ∧ TabAt w g 0 V (G.length - 1) := by
  obtain ⟨g, c, rfl, _, hq⟩ := QueB.of_owns h.own h0
  refine ⟨g, c, rfl, fun y hy => ⟨G[y], V.length, ?_, (h.rows y (by omega)).1⟩⟩
  refine hq.at_ y _ ?_
  rw [List.getElem?_map, List.getElem?_eq_getElem (by omega)]
  rfl

set_option maxRecDepth 100000 in
set_option maxHeartbeats 1000000 in
theorem table_any (V : List (List Nat)) (hV : WF V) (Y : Nat) (hY : Y ≤ 1000) (b off cap : Nat) (w : World) (hv : VAt w b off V) :
    Calls Tryd.prog 73 #[.slice (some ⟨b, off, none⟩) V.length cap, .int .i64 (Y : Int)] w fun e w' => (∃ g c, e = .returned (.slice (some ⟨g, 0, none⟩) (Y + 1) c) ∧ TabAt w' g 0 V Y) ∧ Chg (fun _ => False) w w' := by
  have hn6 := hV.le
  have hmk := make_row V.length (by omega)
  have HV := Lib.hid hv; have HWF := Lib.hid hV
  have HI90 : Hid (∃ i0, Tryd.prog.info? 90 = some i0 ∧ i0.zero = some (.slice none 0 0) ∧ i0.size = 1 ∧ i0.bytes = 24) := Lib.hid (by
    obtain ⟨i0, h0, h1, h2, h3⟩ := info_parts info90
    exact ⟨i0, h0, h1, h2, h3⟩)
  clear hv hV
  go_enter Tryd.func73, Tryd.ntmps73
  go_wp2_with fail
  go_loopg [6, 5] (Y + 1) (fun gm yv ov wr => ∃ (y : Nat) (G : List Nat), y ≤ Y + 1 ∧ gm = Y + 1 - y ∧ yv = .int .i64 y ∧ G.length = y ∧ RT w wr V ov G)
  case atStart => exact ⟨0, [], by omega, by omega, rfl, rfl, World.ownsRow_nil w _ 90 1, fun y hy => by simp at hy, Chg.refl _ _⟩
  case round =>
    obtain ⟨y, G, hy, rfl, rfl, hG, hrt⟩ := hrel
    have HG := Lib.hid hG; have HRT := Lib.hid hrt
    clear hG hrt
    generalize u5 = ov at HRT ⊢
    by_cases hyY : y ≤ Y
    · have d0 : decide ((y : Int) ≤ (Y : Int)) = true := by simp; omega
      obtain ⟨rb, hrb⟩ : ∃ rb, wr.heap.size = rb := ⟨_, rfl⟩
      have HRB := Lib.hid hrb
      have HB0 := made_row V.length wr
      rw [hrb] at HB0
      have HBK0 : Hid (Blk (wr.alloc (.cells (Array.replicate V.length (.int .u64 0)) 88)) rb 88 (uv (prF (tab V y) V.length 0))) := Lib.hid (by unfold prF; simpa using HB0)
      have HC0 := Lib.hid ((Chg.refl (fun _ => False) wr).alloc (.cells (Array.replicate V.length (.int .u64 0)) 88))
      go_wp2_with fail
      clear hrb HB0
      obtain ⟨wo, hwo⟩ : ∃ wo : World, wo = wr := ⟨_, rfl⟩
      rw [← hwo] at HRT HRB HC0 HBK0 ⊢
      clear hwo
      generalize wo.alloc (.cells (Array.replicate V.length (.int .u64 0)) 88) = W0 at HC0 HBK0 ⊢
      go_loopg [8] V.length (fun gm pv wr => ∃ p : Nat, p ≤ V.length ∧ gm = V.length - p ∧ pv = .int .i64 p ∧ Blk wr rb 88 (uv (prF (tab V y) V.length p)) ∧ Chg (fun _ => False) wo wr)
      case atStart => exact ⟨0, by omega, by omega, rfl, HBK0.out, HC0.out⟩
      case round =>
        clear HBK0 HC0
        obtain ⟨p, hp, rfl, rfl, hbk, hc⟩ := hrel
        have HBK := Lib.hid hbk; have HC := Lib.hid hc
        clear hbk hc
        have HTL := Lib.hid (tab_len V y)
        by_cases hpl : p < V.length
        · have d1 : decide (p < V.length) = true := by simpa using hpl
          have HNX := Lib.hid (prF_next HTL.out hpl)
          by_cases hy0 : y = 0
          · subst hy0
            rw [tab_zero hpl] at HNX
            have k1 := HBK.out.cell_some (uv_at (i := p) (by rw [prF_len HTL.out (by omega)]; exact hpl))
            have f1 := HBK.out.free p
            go_wp2_with fail
            go_roundg (V.length - (p + 1))
            case measure => omega
            case rel => exact ⟨p + 1, by omega, rfl, by go_num, by rw [← HNX.out, uv_set]; exact HBK.out.set p _, HC.out.setCell (.inr (by rw [HRB.out]; exact Nat.le_refl _)) _⟩
          · have hyb : ((y : Int) == 0) = false := by simp; omega
            obtain ⟨z, hz⟩ : ∃ z, y = z + 1 := ⟨y - 1, by omega⟩
            have HZ := Lib.hid hz
            have hz1 : (y : Int) - 1 = (z : Int) := by omega
            have hzy : z < y := by omega
            obtain ⟨g, gc, hov, htb⟩ := HRT.out.tab (by rw [HG.out]; omega)
            rw [HG.out] at hov htb
            have HTB := Lib.hid htb
            subst hov
            have c0 := (HV.out.chg (HRT.out.chg.trans HC.out (fun _ x => x.elim)) (fun x => x)) p hpl
            rw [← part_lt hpl] at c0
            have hp8 := (HWF.out.part_le p).1
            have HP := Lib.hid (HWF.out.part_le p).2
            have HTS := Lib.hid (show at0 (tab V y) p = tbP (part V p) (tab V z) (part V p).length by rw [hz]; exact tab_succ hpl)
            rw [HTS.out] at HNX
            obtain ⟨q, hq⟩ : ∃ q, part V p = q := ⟨_, rfl⟩
            rw [hq] at c0 hp8 HP HNX
            have HQP := Lib.hid hq
            clear hz hq htb
            have hsz := str_size q
            have HST : Hid (Blk wr rb 88 (uv ((prF (tab V y) V.length p).set p (tbP q (tab V z) 0)))) := Lib.hid (by rw [show tbP q (tab V z) 0 = 0 from rfl, prF_set_zero HTL.out hpl]; exact HBK.out)
            go_wp2_with fail
            clear c0
            go_loopg [9] q.length (fun gm kv wr => ∃ k : Nat, k ≤ q.length ∧ gm = q.length - k ∧ kv = .int .i64 k ∧ Blk wr rb 88 (uv ((prF (tab V y) V.length p).set p (tbP q (tab V z) k))) ∧ Chg (fun _ => False) wo wr)
            case atStart => exact ⟨0, by omega, by omega, rfl, HST.out, HC.out⟩
            case round =>
              clear HST HC HBK
              obtain ⟨k, hk, rfl, rfl, hbk, hc⟩ := hrel
              have HBK := Lib.hid hbk; have HC := Lib.hid hc
              clear hbk hc
              have c0 := (HV.out.chg (HRT.out.chg.trans HC.out (fun _ x => x.elim)) (fun x => x)) p hpl
              rw [← part_lt hpl, HQP.out] at c0
              by_cases hkl : k < q.length
              · have d3 : decide (k < q.length) = true := by simpa using hkl
                have hcn := HP.out _ (List.getElem_mem hkl)
                have hidx := index_chr hkl (by omega)
                have hu8 := u8_chr q[k] (by omega)
                have HSK : Hid (tbP q (tab V z) (k + 1) = min (tbP q (tab V z) k + at0 (tab V z) q[k]) M63) := Lib.hid (by rw [tbP, at0_lt_of hkl])
                have hlen1 : ((prF (tab V y) V.length p).set p (tbP q (tab V z) k)).length = V.length := by rw [List.length_set]; exact prF_len HTL.out (by omega)
                have k1 := HBK.out.cell_some (uv_at (i := p) (by rw [hlen1]; exact hpl))
                rw [show at0 ((prF (tab V y) V.length p).set p (tbP q (tab V z) k)) p = tbP q (tab V z) k by rw [at0_set _ _ _ _ (by rw [prF_len HTL.out (by omega)]; exact hpl), if_pos rfl]] at k1
                have HL1 := Lib.hid hlen1
                clear hlen1
                obtain ⟨gz, cz, t1, t2⟩ := (HTB.out.chg HC.out) z (by omega)
                rw [Nat.zero_add] at t1
                have t3 := t2 q[k] (by rw [tab_len]; exact hcn)
                clear t2
                have HPL := Lib.hid (rplus_any (tbP q (tab V z) k) (at0 (tab V z) q[k]) (tbP_le _ _ k) (tab_le V z _))
                obtain ⟨d, hd⟩ : ∃ d, q[k] = d := ⟨_, rfl⟩
                rw [hd] at hcn hu8 HSK t3 HPL
                simp only [hd] at hidx
                obtain ⟨D, hD⟩ : ∃ D, 97 + d = D := ⟨_, rfl⟩
                rw [hD] at hu8
                simp only [hD] at hidx
                obtain ⟨x, hx⟩ : ∃ x, at0 (tab V z) d = x := ⟨_, rfl⟩
                obtain ⟨u, hu⟩ : ∃ u, tbP q (tab V z) k = u := ⟨_, rfl⟩
                rw [hx] at t3 HSK HPL
                rw [hu] at HSK HPL k1 HBK
                clear hd hD hx hu
                have hdi : (d : Int) < (V.length : Int) := by omega
                have hpi : (p : Int) < (V.length : Int) := by omega
                have hzi : (z : Int) < (y : Int) := by omega
                have hwz : IntKind.i64.wrap (z : Int) = (z : Int) := IntWalk.i64_in _ (by omega)
                have hwd : IntKind.i64.wrap (d : Int) = (d : Int) := IntWalk.i64_in _ (by omega)
                have f1 := HBK.out.free p
                go_wp2_with fail
                go_still_tail 23, (by kernel_rfl)
                still_call (HPL.out _)
                repeat still_step
                refine wpStill_nil ?_
                change wpList _ _ _ _ _ wr.drew
                have HC1 := Lib.hid HC.out.drew; have HB1 := Lib.hid HBK.out.drew
                clear k1 f1 hidx hu8 t1 t3 c0 hwz hwd
                generalize wr.drew = W1 at HC1 HB1 ⊢
                have k1 := HB1.out.cell_some (uv_at (i := p) (by rw [List.length_set, prF_len HTL.out (by omega)]; exact hpl))
                have f1 := HB1.out.free p
                go_wp2_with fail
                go_roundg (q.length - (k + 1))
                case measure => omega
                case rel =>
                  refine ⟨k + 1, by omega, rfl, by go_num, ?_, HC1.out.setCell (.inr (by rw [HRB.out]; exact Nat.le_refl _)) _⟩
                  rw [HSK.out]
                  have h := HB1.out.set p (.int .u64 ((min (u + x) M63 : Nat) : Int))
                  rw [← uv_set, List.set_set] at h
                  exact h
              · obtain rfl : k = q.length := by omega
                go_wp2_with fail
                go_roundg (V.length - (p + 1))
                case measure => omega
                case rel => exact ⟨p + 1, by omega, rfl, by go_num, by rw [← HNX.out]; exact HBK.out, HC.out⟩
        · obtain rfl : p = V.length := by omega
          rw [prF_done HTL.out] at HBK
          have HRK := Lib.hid (HRT.out.kept HC.out)
          have HXX := Lib.hid (Blk.new wr #[rv V.length rb] 90)
          have HRA := Lib.hid (HRK.out.kept ((Chg.refl (fun _ => False) wr).alloc (.cells #[rv V.length rb] 90)))
          have HRW := Lib.hid ((row_of_blk HBK.out).chg ((Chg.refl (fun _ => False) wr).alloc (.cells #[rv V.length rb] 90)) (fun x => x))
          have hrl := HBK.out.lt
          have HRL := Lib.hid (show rb < (wr.alloc (.cells #[rv V.length rb] 90)).heap.size from Nat.lt_of_lt_of_le hrl ((Chg.refl (fun _ => False) wr).alloc (.cells #[rv V.length rb] 90)).size)
          have HNE := Lib.hid (show ov.ownBlock ≠ some rb from fun e => by
            have := (HRT.out.own.lt rb e).2
            have := HRB.out
            omega)
          have HBS := Lib.hid (show w.heap.size ≤ (wr.alloc (.cells #[rv V.length rb] 90)).heap.size from HRA.out.chg.size)
          have HOW := Lib.hid HRA.out.own
          rw [HG.out] at HOW
          obtain ⟨g3, hg3⟩ : ∃ g3, wr.heap.size = g3 := ⟨_, rfl⟩
          rw [hg3] at HXX
          have HS3 := Lib.hid (show (wr.alloc (.cells #[rv V.length rb] 90)).heap.size = g3 + 1 by show (wr.heap.push _).size = _; rw [Array.size_push, hg3])
          clear hrl
          unfold rv at HXX
          go_wp2_with (at_builtin; refine wpList_append_two rfl (.tmp 61) (.tmp 63) 86 rfl w.heap.size 90 HI90.out.choose _ 1 24 Tryd.underlying86 HI90.out.choose_spec.1 HI90.out.choose_spec.2.1 HI90.out.choose_spec.2.2.1 HI90.out.choose_spec.2.2.2 rfl (by decide) ov y _ (by simp [Act.eval]) HOW.out ⟨g3, 0, none⟩ 1 1 [rv V.length rb] (by simp [Act.eval]) rfl (fun j v hj => by rw [add_plain, Nat.zero_add]; exact HXX.out.cell_some hj) (by intro v hv; simp at hv; subst hv; rfl) (by unfold maxLen; omega) (by omega) HBS.out ?_)
          intro v' w2 hown' hgrow htwo
          have HPU := Lib.hid (HRA.out.push (by rw [HG.out]; exact HRW.out) HRL.out HNE.out (by rw [HG.out]; exact hown') hgrow (by rw [HS3.out]; exact htwo))
          clear hown' hgrow htwo hg3
          go_wp2_with fail
          go_roundg (Y + 1 - (y + 1))
          case measure => omega
          case rel => exact ⟨y + 1, G ++ [rb], by omega, rfl, by go_num, by rw [List.length_append, HG.out]; rfl, HPU.out⟩
    · obtain rfl : y = Y + 1 := by omega
      have d0 : decide (((Y + 1 : Nat) : Int) ≤ (Y : Int)) = false := by simp; omega
      obtain ⟨g, c, hov, htb⟩ := HRT.out.tab (by rw [HG.out]; omega)
      rw [HG.out] at hov htb
      have HTB := Lib.hid htb
      subst hov
      clear htb
      go_wp2_with fail
      go_ret
      exact ⟨⟨g, c, rfl, HTB.out⟩, HRT.out.chg⟩
end Go.Proofs.YtilacamhjibneaaDoor

/- At of the reference, walked. Its conditions are its premises. -/
namespace Go.Proofs.YtilacamhjibneaaDoor
open Go.RowKit

/-- The letter in which the place lies, and the place within it. -/
def fnd : List Nat → List Nat → Nat → Option (Nat × Nat)
  | [], _, _ => none
  | c :: s, R, l => if at0 R c ≤ l then fnd s R (l - at0 R c) else some (c, l)
def atF (V : List (List Nat)) : Nat → List Nat → Nat → Option Nat
  | 0, s, l => (fnd s (tab V 0) l).map Prod.fst
  | y + 1, s, l => match fnd s (tab V (y + 1)) l with
    | none => none
    | some (c, m) => atF V y (part V c) m
def sm (s R : List Nat) : Nat := (s.map (at0 R)).sum
theorem tbP_eq (s R : List Nat) : ∀ k, k ≤ s.length → tbP s R k = min (sm (s.take k) R) M63
  | 0, _ => by simp [tbP, sm]
  | k + 1, hk => by
    have hk' : k < s.length := hk
    rw [tbP, tbP_eq s R k (by omega), at0_lt_of hk', List.take_succ_eq_append_getElem hk']
    unfold sm
    rw [List.map_append, List.sum_append]
    simp
    omega
theorem lngV_eq (s R : List Nat) : lngV s R = min (sm s R) M63 := by
  unfold lngV
  rw [tbP_eq s R _ (Nat.le_refl _), List.take_length]
theorem fnd_none : ∀ (s R : List Nat) (l : Nat), fnd s R l = none ↔ sm s R ≤ l
  | [], R, l => by simp [fnd, sm]
  | c :: s, R, l => by
    unfold fnd
    have hs : sm (c :: s) R = at0 R c + sm s R := by simp [sm]
    rw [hs]
    split
    · rw [fnd_none s R _]
      omega
    · simp
      omega
theorem fnd_some {s R : List Nat} {l c m : Nat} (h : fnd s R l = some (c, m)) : c ∈ s ∧ m < at0 R c := by
  induction s generalizing l with
  | nil => cases h
  | cons d s ih =>
    unfold fnd at h
    split at h
    · obtain ⟨h1, h2⟩ := ih h
      exact ⟨by simp [h1], h2⟩
    · cases h
      exact ⟨by simp, by omega⟩
theorem fnd_drop {s : List Nat} {k : Nat} (h : k < s.length) (R : List Nat) (l : Nat) : fnd (s.drop k) R l = if at0 R s[k] ≤ l then fnd (s.drop (k + 1)) R (l - at0 R s[k]) else some (s[k], l) := by
  rw [List.drop_eq_getElem_cons h, fnd]
theorem fnd_lt {s R : List Nat} {k l : Nat} {r : Nat × Nat} (h : fnd (s.drop k) R l = some r) : k < s.length := by
  rcases Nat.lt_or_ge k s.length with h1 | h1
  · exact h1
  · rw [List.drop_of_length_le h1] at h
    cases h
theorem sm_le_lng {s R : List Nat} {l : Nat} (hl : l < M63) : sm s R ≤ l ↔ lngV s R ≤ l := by
  rw [lngV_eq]
  omega
theorem atF_none {V : List (List Nat)} (hV : WF V) : ∀ (y : Nat) (s : List Nat) (l : Nat), (∀ c ∈ s, c < V.length) → l < M63 → (atF V y s l = none ↔ lngV s (tab V y) ≤ l)
  | 0, s, l, hs, hl => by
    rw [← sm_le_lng hl, ← fnd_none, atF]
    cases fnd s (tab V 0) l <;> simp
  | y + 1, s, l, hs, hl => by
    rw [← sm_le_lng hl, ← fnd_none, atF]
    cases h : fnd s (tab V (y + 1)) l with
    | none => simp
    | some r =>
      obtain ⟨c, m⟩ := r
      obtain ⟨h1, h2⟩ := fnd_some h
      have hc := hs c h1
      rw [tab_succ hc] at h2
      have hm : m < M63 := by have := tbP_le (part V c) (tab V y) (part V c).length; unfold lngV at h2; omega
      have ih := atF_none hV y (part V c) m (hV.part_le c).2 hm
      simp only [reduceCtorEq, iff_false]
      rw [ih]
      omega
theorem str_one {s : List Nat} {k : Nat} (h : k < s.length) : (str s).extract k (k + 1) = str [s[k]] := by
  apply ByteArray.ext
  apply Array.ext'
  show _ = List.map chr [s[k]]
  rw [Lib.extract_data]
  simp [str]
  have h' : k < (List.map chr s).length := by simpa using h
  rw [List.drop_eq_getElem_cons h']
  simp
def atOk (V : List (List Nat)) (t : List Nat) (years place : Int) : Value :=
  if ¬ (0 ≤ years ∧ years ≤ 1000) then .tuple #[.string ⟨#[]⟩, .int .i64 3] else if place < 0 then .tuple #[.string ⟨#[]⟩, .int .i64 4] else
  match atF V years.toNat t place.toNat with
  | none => .tuple #[.string ⟨#[]⟩, .int .i64 6]
  | some c => .tuple #[.string (str [c]), .int .i64 0]
theorem rshoot_ok (V : List (List Nat)) (hV : WF V) (t : List Nat) (ht : ∀ c ∈ t, c < V.length) (hl : t.length ≤ 30) (b off cap : Nat) (w : World) (hv : VAt w b off V) :
    Calls Tryd.prog 36 #[.slice (some ⟨b, off, none⟩) V.length cap, .string (str t)] w fun e w' => e = .returned (.int .i64 0) ∧ w' = w := by
  have h6 := hV.le
  have h := rshoot_any (V.map str) (str t) (some ⟨b, off, none⟩) cap b off w (strs_of hv) (.inr rfl) (by rw [List.length_map]; omega) (by
    intro p hp
    obtain ⟨q, hq, rfl⟩ := List.mem_map.1 hp
    rw [str_size]
    have := (hV.small q hq).1
    omega) (by rw [str_size]; omega)
  rw [List.length_map, errS_ok hV ht hl] at h
  exact h
end Go.Proofs.YtilacamhjibneaaDoor

/- At of the reference, walked. Its conditions are its premises. -/
namespace Go.Proofs.YtilacamhjibneaaDoor
open Go.RowKit

set_option maxRecDepth 100000 in
set_option maxHeartbeats 1000000 in
theorem rAt_ok (V : List (List Nat)) (hV : WF V) (t : List Nat) (ht : ∀ c ∈ t, c < V.length) (hl : t.length ≤ 30) (years place : Int) (hyi : I64 years) (hpi : I64 place) (b off cap : Nat) (w : World) (hv : VAt w b off V) :
    Calls Tryd.prog 42 #[.slice (some ⟨b, off, none⟩) V.length cap, .string (str t), .int .i64 years, .int .i64 place] w fun e w' => e = .returned (atOk V t years place) ∧ Chg (fun _ => False) w w' := by
  have HS := Lib.hid (rshoot_ok V hV t ht hl b off cap w hv)
  unfold I64 at hyi hpi
  by_cases hy : 0 ≤ years ∧ years ≤ 1000
  · obtain ⟨Y, rfl⟩ : ∃ Y : Nat, years = (Y : Int) := ⟨years.toNat, by omega⟩
    have hY : Y ≤ 1000 := by omega
    have d1 : decide ((Y : Int) < 0) = false := by simp
    have d2 : decide ((1000 : Int) < (Y : Int)) = false := by simp; omega
    have HR := Lib.hid (show atOk V t (Y : Int) place = if place < 0 then .tuple #[.string ⟨#[]⟩, .int .i64 4] else
        match atF V (Y : Int).toNat t place.toNat with
        | none => .tuple #[.string ⟨#[]⟩, .int .i64 6]
        | some c => .tuple #[.string (str [c]), .int .i64 0] from if_neg (by omega))
    clear hy hyi
    by_cases hp : place < 0
    · have d3 : decide (place < 0) = true := by simpa using hp
      have HR2 := Lib.hid (HR.out.trans (if_pos hp))
      clear hp HR
      go_enter Tryd.func42, Tryd.ntmps42
      go_wp2_with fail
      refine HS.out.mono ?_
      rintro e w1 ⟨rfl, rfl⟩
      go_wp2_with fail
      go_ret2
      exact ⟨by rw [HR2.out]; rfl, Chg.refl _ _⟩
    · obtain ⟨L, rfl⟩ : ∃ L : Nat, place = (L : Int) := ⟨place.toNat, by omega⟩
      have d3 : decide ((L : Int) < 0) = false := by simp
      have hL : L < M63 := by unfold M63; omega
      have hwL : IntKind.u64.wrap (L : Int) = (L : Int) := by simp [IntKind.wrap, IntKind.bits, IntKind.signed]; omega
      have HR2 := Lib.hid (HR.out.trans (if_neg hp))
      clear hp HR hpi
      have HV := Lib.hid hv; have HWF := Lib.hid hV; have HT := Lib.hid ht
      have HTB := Lib.hid (table_any V hV Y hY b off cap w hv)
      have HNN := Lib.hid (atF_none hV Y t L ht hL)
      have hn6 := hV.le
      clear hv hV ht
      go_enter Tryd.func42, Tryd.ntmps42
      go_wp2_with fail
      refine HS.out.mono ?_
      rintro e w1 ⟨rfl, rfl⟩
      go_wp2_with fail
      refine HTB.out.mono ?_
      rintro e w2 ⟨⟨tb, tc, rfl, htab⟩, hc2⟩
      have HTAB := Lib.hid htab; have HC2 := Lib.hid hc2
      obtain ⟨g0, c0, t1, t2⟩ := htab Y (Nat.le_refl _)
      rw [Nat.zero_add] at t1
      have HLG := Lib.hid (long_any t (tab V Y) V.length (by omega) HT.out (tab_len V Y) (tab_le V Y) (by omega) g0 c0 w2 t2)
      have hYY : (Y : Int) < ((Y + 1 : Nat) : Int) := by omega
      obtain ⟨Y1, hY1⟩ : ∃ Y1, Y + 1 = Y1 := ⟨_, rfl⟩
      rw [hY1] at hYY ⊢
      clear htab hc2 t2 hY1
      obtain ⟨S, hS⟩ : ∃ S, lngV t (tab V Y) = S := ⟨_, rfl⟩
      rw [hS] at HLG HNN
      clear hS
      by_cases hSL : S ≤ L
      · have d4 : decide (S ≤ L) = true := by simp; omega
        have HAN := Lib.hid (HNN.out.2 hSL)
        go_wp2_with fail
        refine HLG.out.mono ?_
        rintro e w3 ⟨rfl, rfl⟩
        go_wp2_with fail
        go_ret2
        refine ⟨?_, HC2.out⟩
        rw [HR2.out, show (Y : Int).toNat = Y from rfl, show (L : Int).toNat = L from rfl, HAN.out]
        rfl
      · have d4 : decide (S ≤ L) = false := by simp; omega
        have hAS : atF V Y t L ≠ none := fun e => hSL (HNN.out.1 e)
        obtain ⟨r, hr⟩ := Option.ne_none_iff_exists'.1 hAS
        have HRR := Lib.hid hr
        clear hAS hr hSL HNN
        go_wp2_with fail
        refine HLG.out.mono ?_
        rintro e w3 ⟨rfl, rfl⟩
        go_wp2_with fail
        clear d4 HLG t1
        go_loopg [13, 1, 12] Y (fun gm yv sv lv wr => ∃ (y : Nat) (s : List Nat) (l q : Nat), y ≤ Y ∧ y = gm ∧ yv = .int .i64 y ∧ sv = .string (str s) ∧ lv = .int .u64 (l : Int) ∧ (∀ c ∈ s, c < V.length) ∧ s.length ≤ 30 ∧ l < M63 ∧ atF V y s l = some r ∧ wr = w3.drewN q)
        case atStart => exact ⟨Y, t, L, 0, Nat.le_refl _, rfl, rfl, rfl, rfl, HT.out, hl, hL, HRR.out, rfl⟩
        case round =>
          obtain ⟨y, s, l, q, hyY, rfl, rfl, rfl, rfl, hs, hsl, hlm, ha, rfl⟩ := hrel
          have HSL := Lib.hid hs; have HA := Lib.hid ha
          clear hs ha
          have HFS : Hid (∃ d, fnd s (tab V y) l = some d) := Lib.hid (by
            have h := HA.out
            cases hf : fnd s (tab V y) l with
            | none => cases y <;> (rw [atF, hf] at h; cases h)
            | some d => exact ⟨d, rfl⟩)
          obtain ⟨⟨d, m⟩, hf⟩ := HFS.out
          have HF := Lib.hid hf
          obtain ⟨g1, c1, u1, u2⟩ := HTAB.out y hyY
          rw [Nat.zero_add] at u1
          have HU2 := Lib.hid u2; have HU1 := Lib.hid u1
          have hyi : (y : Int) < (Y1 : Int) := by omega
          have hsz := str_size s
          have HTL := Lib.hid (tab_len V y)
          clear hf u2 u1 HFS
          go_wp2_with fail
          obtain ⟨wy, hwy⟩ : ∃ wy : World, wy = w3.drewN q := ⟨_, rfl⟩
          have HWY := Lib.hid hwy
          have HCY := Lib.hid (show Chg (fun _ => False) w1 wy by rw [hwy]; exact HC2.out.drewN q)
          rw [← hwy]
          clear hwy
          go_loopg [14, 12] s.length (fun gm iv lv wr => ∃ i l' p : Nat, i ≤ s.length ∧ gm = s.length - i ∧ iv = .int .i64 i ∧ lv = .int .u64 (l' : Int) ∧ l' < M63 ∧ fnd (s.drop i) (tab V y) l' = some (d, m) ∧ wr = wy.drewN p)
          case atStart => exact ⟨0, l, 0, by omega, by omega, rfl, rfl, hlm, HF.out, rfl⟩
          case round =>
            obtain ⟨i, l', p, hi, rfl, rfl, rfl, hlm', hff, rfl⟩ := hrel
            have hil := fnd_lt hff
            rw [fnd_drop hil] at hff
            have HFF := Lib.hid hff
            clear hff
            have hcn := HSL.out _ (List.getElem_mem hil)
            have hidx := index_chr hil (by omega)
            have hu8 := u8_chr s[i] (by omega)
            have HON := Lib.hid (str_one hil)
            have u1 := HU1.out
            have u3 := HU2.out s[i] (by rw [HTL.out]; exact hcn)
            obtain ⟨c, hc⟩ : ∃ c, s[i] = c := ⟨_, rfl⟩
            rw [hc] at hcn hu8 u3 HFF HON
            simp only [hc] at hidx
            obtain ⟨C, hC⟩ : ∃ C, 97 + c = C := ⟨_, rfl⟩
            rw [hC] at hu8
            simp only [hC] at hidx
            obtain ⟨x, hx⟩ : ∃ x, at0 (tab V y) c = x := ⟨_, rfl⟩
            rw [hx] at u3 HFF
            clear hc hC hx
            have hci : (c : Int) < (V.length : Int) := by omega
            have hwc : IntKind.i64.wrap (c : Int) = (c : Int) := IntWalk.i64_in _ (by omega)
            have u1' : wy.cell? ⟨tb, y, none⟩ = some (.slice (some ⟨g1, 0, none⟩) V.length c1) := by rw [HWY.out]; exact u1
            have u3' : wy.cell? ⟨g1, c, none⟩ = some (.int .u64 (x : Int)) := by rw [HWY.out]; exact u3
            clear u1 u3
            by_cases hxl : x ≤ l'
            · have d5 : decide (x ≤ l') = true := by simpa using hxl
              rw [if_pos hxl] at HFF
              have hwx : IntKind.u64.wrap ((l' : Int) - (x : Int)) = (l' : Int) - (x : Int) := by unfold M63 at hlm'; simp [IntKind.wrap, IntKind.bits, IntKind.signed]; omega
              go_wp2_with fail
              go_quiet (fail)
              go_wp2_with fail
              go_quiet (fail)
              go_wp2_with fail
              go_roundg (s.length - (i + 1))
              case measure => omega
              case rel => exact ⟨i + 1, l' - x, _, by omega, rfl, by go_num, by congr 1; omega, by omega, HFF.out, rfl⟩
            · have d5 : decide (x ≤ l') = false := by simpa using hxl
              rw [if_neg hxl] at HFF
              obtain ⟨rfl, rfl⟩ : c = d ∧ l' = m := by have h := HFF.out; injection h with h; injection h with h1 h2; exact ⟨h1, h2⟩
              cases y with
              | zero =>
                have HRC : Hid (r = c) := Lib.hid (by
                  have h := HA.out
                  rw [atF, HF.out] at h
                  simpa using h.symm)
                go_wp2_with fail
                go_quiet (fail)
                go_wp2_with fail
                go_ret2
                refine ⟨?_, HCY.out.drewN _⟩
                rw [HR2.out, show (Y : Int).toNat = Y from rfl, show (L : Int).toNat = L from rfl, HRR.out, HRC.out]
                show _ = Ending.returned (.tuple #[.string (str [c]), .int .i64 0])
                rw [← HON.out]
                rfl
              | succ y =>
                have v1 := (HV.out.chg HC2.out (fun x => x)) c hcn
                rw [← part_lt hcn] at v1
                have v1' : wy.cell? ⟨b, off + c, none⟩ = some (.string (str (part V c))) := by rw [HWY.out]; exact v1
                have HNA : Hid (atF V y (part V c) l' = some r) := Lib.hid (by
                  have h := HA.out
                  rw [atF, HF.out] at h
                  exact h)
                have HPS := Lib.hid (HWF.out.part_le c)
                obtain ⟨ps, hps⟩ : ∃ ps, part V c = ps := ⟨_, rfl⟩
                rw [hps] at v1' HNA HPS
                clear v1 hps
                obtain ⟨z, hz⟩ : ∃ z, y + 1 = z := ⟨_, rfl⟩
                have HZ := Lib.hid hz
                have hz0 : ¬ (z : Int) = 0 := by omega
                have hz1 : (z : Int) - 1 = (y : Int) := by omega
                rw [hz] at u1' hyi hyY ⊢
                clear hz
                go_wp2_with fail
                go_quiet (fail)
                go_wp2_with fail
                go_roundg y
                case measure => omega
                case rel => exact ⟨y, ps, l', q + (p + nq), by have := HZ.out; omega, rfl, rfl, rfl, rfl, HPS.out.2, by have := HPS.out.1; omega, hlm', HNA.out, by rw [HWY.out]; simp⟩
  · have HR := Lib.hid (show atOk V t years place = .tuple #[.string ⟨#[]⟩, .int .i64 3] from if_pos hy)
    by_cases hy0 : years < 0
    · have d1 : decide (years < 0) = true := by simpa using hy0
      clear hy hy0
      go_enter Tryd.func42, Tryd.ntmps42
      go_wp2_with fail
      refine HS.out.mono ?_
      rintro e w1 ⟨rfl, rfl⟩
      go_wp2_with fail
      go_ret2
      exact ⟨by rw [HR.out]; rfl, Chg.refl _ _⟩
    · have d1 : decide (years < 0) = false := by simpa using hy0
      have d2 : decide (1000 < years) = true := by simp; omega
      clear hy hy0
      go_enter Tryd.func42, Tryd.ntmps42
      go_wp2_with fail
      refine HS.out.mono ?_
      rintro e w1 ⟨rfl, rfl⟩
      go_wp2_with fail
      go_ret2
      exact ⟨by rw [HR.out]; rfl, Chg.refl _ _⟩
end Go.Proofs.YtilacamhjibneaaDoor

/- The table of At, in memory. Its conditions are its premises. -/
namespace Go.Proofs.YtilacamhjibneaaDoor
open Go.RowKit

/-- The table so far. -/
structure LT (w0 w : World) (tb N : Nat) (V : List (List Nat)) (G : List (Nat × Nat)) : Prop where
  outer : Blk w tb 90 (outG V.length N G)
  rows : ∀ y (h : y < G.length), RowAt w G[y].1 (tab V y) ∧ G[y].1 ≠ tb ∧ G[y].1 < w.heap.size
  chg : Chg (fun _ => False) w0 w
  otb : w0.heap.size ≤ tb
/-- .. and the row that is being made. -/
structure LP (w0 w : World) (tb N : Nat) (V : List (List Nat)) (G : List (Nat × Nat)) (rb : Nat) (R : List Nat) : Prop where
  outer : Blk w tb 90 (outG V.length N (G ++ [(rb, V.length)]))
  rows : ∀ y (h : y < G.length), RowAt w G[y].1 (tab V y) ∧ G[y].1 ≠ tb ∧ G[y].1 ≠ rb ∧ G[y].1 < w.heap.size
  row : Blk w rb 88 (uv R)
  ne : rb ≠ tb
  chg : Chg (fun _ => False) w0 w
  otb : w0.heap.size ≤ tb
  orb : w0.heap.size ≤ rb
theorem LT.open_ {w0 w : World} {tb N : Nat} {V : List (List Nat)} {G : List (Nat × Nat)} (h : LT w0 w tb N V G) (hlt : G.length < N) :
    LP w0 ((w.alloc (.cells (Array.replicate V.length (.int .u64 0)) 88)).setCell ⟨tb, G.length, none⟩ (.slice (some ⟨w.heap.size, 0, none⟩) V.length V.length)) tb N V G w.heap.size (List.replicate V.length 0) := by
  have hcb := h.outer.lt
  have hc : Chg (fun k => k = tb) w ((w.alloc (.cells (Array.replicate V.length (.int .u64 0)) 88)).setCell ⟨tb, G.length, none⟩ (.slice (some ⟨w.heap.size, 0, none⟩) V.length V.length)) := ((Chg.refl (fun k => k = tb) w).alloc _).setCell (a := ⟨tb, G.length, none⟩) (.inl rfl) _
  refine ⟨?_, fun y hy => ?_, (made_row V.length w).setOther (a := ⟨tb, G.length, none⟩) (by show tb ≠ w.heap.size; omega) _, by omega, h.chg.trans hc (fun k hk => .inr (by rw [hk]; exact h.otb)), h.otb, h.chg.size⟩
  · have := (h.outer.alloc (.cells (Array.replicate V.length (.int .u64 0)) 88)).set G.length (gv V.length (w.heap.size, V.length))
    rw [outG_set _ hlt] at this
    exact this
  · obtain ⟨h1, h2, h3⟩ := h.rows y hy
    exact ⟨h1.chg hc h2, h2, by omega, Nat.lt_of_lt_of_le h3 hc.size⟩
theorem LP.close {w0 w : World} {tb N : Nat} {V : List (List Nat)} {G : List (Nat × Nat)} {rb : Nat} (h : LP w0 w tb N V G rb (tab V G.length)) : LT w0 w tb N V (G ++ [(rb, V.length)]) := by
  refine ⟨h.outer, fun y hy => ?_, h.chg, h.otb⟩
  by_cases hyl : y < G.length
  · rw [List.getElem_append_left hyl]
    obtain ⟨h1, h2, _, h3⟩ := h.rows y hyl
    exact ⟨h1, h2, h3⟩
  · obtain rfl : y = G.length := by simp at hy; omega
    have he : (G ++ [(rb, V.length)])[G.length]'hy = (rb, V.length) := by simp
    rw [he]
    exact ⟨row_of_blk h.row, h.ne, h.row.lt⟩
theorem LP.kept {w0 w w' : World} {tb N : Nat} {V : List (List Nat)} {G : List (Nat × Nat)} {rb : Nat} {R : List Nat} (h : LP w0 w tb N V G rb R) (hc : Chg (fun _ => False) w w') : LP w0 w' tb N V G rb R :=
  ⟨hc.blk h.outer (fun x => x), fun y hy => by
    obtain ⟨h1, h2, h3, h4⟩ := h.rows y hy
    exact ⟨h1.chg hc (fun x => x), h2, h3, Nat.lt_of_lt_of_le h4 hc.size⟩, hc.blk h.row (fun x => x), h.ne, h.chg.trans hc (fun _ x => x.elim), h.otb, h.orb⟩
theorem LP.set {w0 w : World} {tb N : Nat} {V : List (List Nat)} {G : List (Nat × Nat)} {rb : Nat} {R : List Nat} (h : LP w0 w tb N V G rb R) (i x : Nat) : LP w0 (w.setCell ⟨rb, i, none⟩ (.int .u64 (x : Int))) tb N V G rb (R.set i x) := by
  have hc : Chg (fun k => k = rb) w (w.setCell ⟨rb, i, none⟩ (.int .u64 (x : Int))) := (Chg.refl (fun k => k = rb) w).setCell (a := ⟨rb, i, none⟩) (.inl rfl) _
  exact ⟨h.outer.setOther (a := ⟨rb, i, none⟩) h.ne _, fun y hy => by
    obtain ⟨h1, h2, h3, h4⟩ := h.rows y hy
    exact ⟨h1.chg hc h3, h2, h3, Nat.lt_of_lt_of_le h4 hc.size⟩, by rw [uv_set]; exact h.row.set i _, h.ne, h.chg.setCell (.inr h.orb) _, h.otb, h.orb⟩
theorem LP.at_ {w0 w : World} {tb N : Nat} {V : List (List Nat)} {G : List (Nat × Nat)} {rb : Nat} {R : List Nat} (h : LP w0 w tb N V G rb R) : w.cell? ⟨tb, G.length, none⟩ = some (.slice (some ⟨rb, 0, none⟩) V.length V.length) := by
  have := h.outer.cell_some (outG_at (n := V.length) (N := N) (G := G ++ [(rb, V.length)]) (k := G.length) (by simp))
  rw [show (G ++ [(rb, V.length)])[G.length]'(by simp) = (rb, V.length) by simp] at this
  exact this
theorem LP.before {w0 w : World} {tb N : Nat} {V : List (List Nat)} {G : List (Nat × Nat)} {rb : Nat} {R : List Nat} (h : LP w0 w tb N V G rb R) {y : Nat} (hy : y < G.length) : ∃ g c, w.cell? ⟨tb, y, none⟩ = some (.slice (some ⟨g, 0, none⟩) V.length c) ∧ RowAt w g (tab V y) := by
  have := h.outer.cell_some (outG_at (n := V.length) (N := N) (G := G ++ [(rb, V.length)]) (k := y) (by simp; omega))
  rw [List.getElem_append_left hy] at this
  exact ⟨G[y].1, G[y].2, this, (h.rows y hy).1⟩
theorem LT.tab {w0 w : World} {tb N : Nat} {V : List (List Nat)} {G : List (Nat × Nat)} (h : LT w0 w tb N V G) {Y : Nat} (hY : Y < G.length) : TabAt w tb 0 V Y := fun y hy => by
  have := h.outer.cell_some (outG_at (n := V.length) (N := N) (G := G) (k := y) (by omega))
  refine ⟨G[y].1, G[y].2, ?_, (h.rows y (by omega)).1⟩
  rw [Nat.zero_add]
  exact this
theorem make_tab (N : Nat) (hN : N ≤ 2000) (w : World) : (Instr.makeSlice 86 (.int .i64 N) (.int .i64 N)).run Tryd.prog w = .ok (.slice (some ⟨w.heap.size, 0, none⟩) N N) (w.alloc (.cells (Array.replicate N (.slice none 0 0)) 90)) := by
  obtain ⟨i0, hi0, hz0, hz1, hz2⟩ := info_parts info90
  have := run_make (P := Tryd.prog) w 86 90 i0 _ Tryd.underlying86 hi0 hz0 .i64 .i64 N N (by omega) (by omega) (by rw [hz2]; omega) (by omega)
  rw [this, hz1, Nat.mul_one, show (Value.slice none 0 0).cells = #[Value.slice none 0 0] from rfl, madeCells_one]
  rfl
theorem made_tab (N : Nat) (V : List (List Nat)) (w : World) : LT w (w.alloc (.cells (Array.replicate N (.slice none 0 0)) 90)) w.heap.size N V [] := by
  have := Blk.new w (Array.replicate N (.slice none 0 0)) 90
  exact ⟨by unfold outG; simpa [nilS] using this, fun y hy => by simp at hy, (Chg.refl _ w).alloc _, Nat.le_refl _⟩
end Go.Proofs.YtilacamhjibneaaDoor

/- At, walked. Its conditions are its premises. -/
namespace Go.Proofs.YtilacamhjibneaaDoor
open Go.RowKit

set_option maxRecDepth 100000 in
set_option maxHeartbeats 1000000 in
theorem at_ok (V : List (List Nat)) (hV : WF V) (t : List Nat) (ht : ∀ c ∈ t, c < V.length) (hl : t.length ≤ 30) (years place : Int) (hyi : I64 years) (hpi : I64 place) (b off cap : Nat) (w : World) (hv : VAt w b off V) :
    Calls Tryd.prog 41 #[.slice (some ⟨b, off, none⟩) V.length cap, .string (str t), .int .i64 years, .int .i64 place] w fun e w' => e = .returned (atOk V t years place) ∧ Chg (fun _ => False) w w' := by
  have HS := Lib.hid (shot_ok V hV t ht hl b off cap w hv)
  have HYR := Lib.hid (yearly_any years w)
  unfold I64 at hyi hpi
  by_cases hy : 0 ≤ years ∧ years ≤ 1000
  · obtain ⟨Y, rfl⟩ : ∃ Y : Nat, years = (Y : Int) := ⟨years.toNat, by omega⟩
    have hY : Y ≤ 1000 := by omega
    rw [decide_eq_true hy] at HYR
    have HR := Lib.hid (show atOk V t (Y : Int) place = if place < 0 then .tuple #[.string ⟨#[]⟩, .int .i64 4] else
        match atF V (Y : Int).toNat t place.toNat with
        | none => .tuple #[.string ⟨#[]⟩, .int .i64 6]
        | some c => .tuple #[.string (str [c]), .int .i64 0] from if_neg (by omega))
    clear hy hyi
    by_cases hp : place < 0
    · have d3 : decide (place < 0) = true := by simpa using hp
      have HR2 := Lib.hid (HR.out.trans (if_pos hp))
      clear hp HR
      go_enter Tryd.func41, Tryd.ntmps41
      go_wp2_with fail
      refine HS.out.mono ?_
      rintro e w1 ⟨rfl, rfl⟩
      go_wp2_with fail
      refine HYR.out.mono ?_
      rintro e w1 ⟨rfl, rfl⟩
      go_wp2_with fail
      go_ret2
      exact ⟨by rw [HR2.out]; rfl, Chg.refl _ _⟩
    · obtain ⟨L, rfl⟩ : ∃ L : Nat, place = (L : Int) := ⟨place.toNat, by omega⟩
      have d3 : decide ((L : Int) < 0) = false := by simp
      have hL : L < M63 := by unfold M63; omega
      have hwL : IntKind.u64.wrap (L : Int) = (L : Int) := by simp [IntKind.wrap, IntKind.bits, IntKind.signed]; omega
      have HR2 := Lib.hid (HR.out.trans (if_neg hp))
      clear hp HR hpi
      have HV := Lib.hid hv; have HWF := Lib.hid hV; have HT := Lib.hid ht
      have hn6 := hV.le
      have hmk := make_row V.length (by omega)
      have hmt : ∀ w : World, (Instr.makeSlice 86 (.int .i64 ((Y : Int) + 1)) (.int .i64 ((Y : Int) + 1))).run Tryd.prog w = .ok (.slice (some ⟨w.heap.size, 0, none⟩) (Y + 1) (Y + 1)) (w.alloc (.cells (Array.replicate (Y + 1) (.slice none 0 0)) 90)) := fun w => make_tab (Y + 1) (by omega) w
      have hn1 := hV.pos
      clear hv hV ht
      go_enter Tryd.func41, Tryd.ntmps41
      go_wp2_with fail
      refine HS.out.mono ?_
      rintro e w1 ⟨rfl, rfl⟩
      go_wp2_with fail
      refine HYR.out.mono ?_
      rintro e w1 ⟨rfl, rfl⟩
      have HLT := Lib.hid (made_tab (Y + 1) V w1)
      obtain ⟨tb, htb⟩ : ∃ tb, w1.heap.size = tb := ⟨_, rfl⟩
      rw [htb] at HLT
      obtain ⟨N, hN⟩ : ∃ N, Y + 1 = N := ⟨_, rfl⟩
      have HNY := Lib.hid hN
      simp only [hN] at HLT hmt
      have hN0 : 0 < N := by omega
      have hN2 : N ≤ 1001 := by omega
      clear hN
      go_upto_region 9 with (fail)
      clear htb hmt
      generalize w1.alloc (.cells (Array.replicate N (.slice none 0 0)) 90) = W0 at HLT ⊢
      have c1 := (HLT.out.outer.alloc (.cells (Array.replicate V.length (.int .u64 0)) 88)).cell_some (outG_next (n := V.length) (N := N) (G := []) hN0)
      have f1 := (HLT.out.outer.alloc (.cells (Array.replicate V.length (.int .u64 0)) 88)).free 0
      obtain ⟨rb, hrb⟩ : ∃ rb, W0.heap.size = rb := ⟨_, rfl⟩
      have HLP := Lib.hid (HLT.out.open_ (by simpa using hN0))
      rw [hrb] at HLP
      rw [List.length_nil] at HLP c1
      go_upto_region 10 with (fail)
      clear c1 f1 hrb HLT
      generalize (W0.alloc (.cells (Array.replicate V.length (.int .u64 0)) 88)).setCell ⟨tb, 0, none⟩ (.slice (some ⟨rb, 0, none⟩) V.length V.length) = W1 at HLP ⊢
      have HLP0 : Hid (LP w1 W1 tb N V [] rb (prF (tab V 0) V.length 0)) := Lib.hid (by unfold prF; simpa using HLP.out)
      clear HLP
      have c1 := HLP0.out.at_
      rw [List.length_nil] at c1
      go_wp2_with fail
      clear c1
      go_loopg [51] V.length (fun gm iv wr => ∃ i : Nat, i ≤ V.length ∧ gm = V.length - i ∧ iv = .int .i64 i ∧ LP w1 wr tb N V [] rb (prF (tab V 0) V.length i))
      case atStart => exact ⟨0, by omega, by omega, rfl, HLP0.out⟩
      case round =>
        clear HLP0
        obtain ⟨i, hi, rfl, rfl, hlp⟩ := hrel
        have HLP := Lib.hid hlp
        clear hlp
        by_cases hil : i < V.length
        · have d1 : decide (i < V.length) = true := by simpa using hil
          have c1 := HLP.out.at_
          rw [List.length_nil] at c1
          have k1 := HLP.out.row.cell_some (uv_at (i := i) (by rw [prF_len (tab_len V 0) (by omega)]; exact hil))
          have f1 := HLP.out.row.free i
          have HNX := Lib.hid (prF_next (tab_len V 0) hil)
          rw [tab_zero hil] at HNX
          go_wp2_with fail
          go_roundg (V.length - (i + 1))
          case measure => omega
          case rel => exact ⟨i + 1, by omega, rfl, by go_num, by rw [← HNX.out]; exact HLP.out.set i 1⟩
        · obtain rfl : i = V.length := by omega
          have HL1 : Hid (LT w1 wr tb N V [(rb, V.length)]) := Lib.hid (by
            have h := HLP.out
            rw [prF_done (tab_len V 0)] at h
            exact h.close)
          clear HLP
          go_wp2_with fail
          go_loopg [14] Y (fun gm yv wr => ∃ (y : Nat) (G : List (Nat × Nat)), 1 ≤ y ∧ y ≤ Y + 1 ∧ gm = Y + 1 - y ∧ yv = .int .i64 y ∧ G.length = y ∧ LT w1 wr tb N V G)
          case atStart => exact ⟨1, _, by omega, by omega, by omega, rfl, rfl, HL1.out⟩
          case round =>
            clear HL1
            obtain ⟨y, G, hy1, hyY, rfl, rfl, hG, hlt⟩ := hrel
            have HG := Lib.hid hG; have HLT := Lib.hid hlt
            clear hG hlt
            by_cases hyl : y ≤ Y
            · have d1 : decide ((y : Int) ≤ (Y : Int)) = true := by simp; omega
              have hyN : y < N := by have := HNY.out; omega
              have c1 := (HLT.out.outer.alloc (.cells (Array.replicate V.length (.int .u64 0)) 88)).cell_some (outG_next (n := V.length) (N := N) (G := G) (by rw [HG.out]; exact hyN))
              have f1 := (HLT.out.outer.alloc (.cells (Array.replicate V.length (.int .u64 0)) 88)).free y
              have HLP := Lib.hid (HLT.out.open_ (by rw [HG.out]; exact hyN))
              obtain ⟨rb, hrb⟩ : ∃ rb, wr.heap.size = rb := ⟨_, rfl⟩
              rw [hrb, HG.out] at HLP
              rw [HG.out] at c1
              go_wp2_with fail
              clear c1 f1 hrb HLT
              generalize (wr.alloc (.cells (Array.replicate V.length (.int .u64 0)) 88)).setCell ⟨tb, y, none⟩ (.slice (some ⟨rb, 0, none⟩) V.length V.length) = W2 at HLP ⊢
              have HTL := Lib.hid (tab_len V y)
              have HLP0 : Hid (LP w1 W2 tb N V G rb (prF (tab V y) V.length 0)) := Lib.hid (by unfold prF; simpa using HLP.out)
              clear HLP
              go_loopg [73] V.length (fun gm iv wr => ∃ i : Nat, i ≤ V.length ∧ gm = V.length - i ∧ iv = .int .i64 i ∧ LP w1 wr tb N V G rb (prF (tab V y) V.length i))
              case atStart => exact ⟨0, by omega, by omega, rfl, HLP0.out⟩
              case round =>
                clear HLP0
                obtain ⟨i, hi, rfl, rfl, hlp⟩ := hrel
                have HLP := Lib.hid hlp
                clear hlp
                by_cases hil : i < V.length
                · have d2 : decide (i < V.length) = true := by simpa using hil
                  have HNX := Lib.hid (prF_next HTL.out hil)
                  have c0 := (HV.out.chg HLP.out.chg (fun x => x)) i hil
                  rw [← part_lt hil] at c0
                  have hp8 := (HWF.out.part_le i).1
                  have HP := Lib.hid (HWF.out.part_le i).2
                  obtain ⟨z, hz⟩ : ∃ z, y = z + 1 := ⟨y - 1, by omega⟩
                  have HTS := Lib.hid (show at0 (tab V y) i = tbP (part V i) (tab V z) (part V i).length by rw [hz]; exact tab_succ hil)
                  have hz1 : (y : Int) - 1 = (z : Int) := by omega
                  have hzy : z < y := by omega
                  rw [HTS.out] at HNX
                  obtain ⟨q, hq⟩ : ∃ q, part V i = q := ⟨_, rfl⟩
                  rw [hq] at c0 hp8 HP HNX
                  clear hz hq HTS
                  have hsz := str_size q
                  have HST : Hid (LP w1 wr tb N V G rb ((prF (tab V y) V.length i).set i (tbP q (tab V z) 0))) := Lib.hid (by rw [show tbP q (tab V z) 0 = 0 from rfl, prF_set_zero HTL.out hil]; exact HLP.out)
                  go_wp2_with fail
                  clear c0
                  go_loopg [80] q.length (fun gm kv wr => ∃ k : Nat, k ≤ q.length ∧ gm = q.length - k ∧ kv = .int .i64 k ∧ LP w1 wr tb N V G rb ((prF (tab V y) V.length i).set i (tbP q (tab V z) k)))
                  case atStart => exact ⟨0, by omega, by omega, rfl, HST.out⟩
                  case round =>
                    clear HST HLP
                    obtain ⟨k, hk, rfl, rfl, hlp⟩ := hrel
                    have HLP := Lib.hid hlp
                    clear hlp
                    by_cases hkl : k < q.length
                    · have d3 : decide (k < q.length) = true := by simpa using hkl
                      have hcn := HP.out _ (List.getElem_mem hkl)
                      have hidx := index_chr hkl (by omega)
                      have hu8 := u8_chr q[k] (by omega)
                      have HSK : Hid (tbP q (tab V z) (k + 1) = min (tbP q (tab V z) k + at0 (tab V z) q[k]) M63) := Lib.hid (by rw [tbP, at0_lt_of hkl])
                      have hlen1 : ((prF (tab V y) V.length i).set i (tbP q (tab V z) k)).length = V.length := by rw [List.length_set]; exact prF_len HTL.out (by omega)
                      have k1 := HLP.out.row.cell_some (uv_at (i := i) (by rw [hlen1]; exact hil))
                      rw [show at0 ((prF (tab V y) V.length i).set i (tbP q (tab V z) k)) i = tbP q (tab V z) k by rw [at0_set _ _ _ _ (by rw [prF_len HTL.out (by omega)]; exact hil), if_pos rfl]] at k1
                      clear hlen1
                      obtain ⟨gz, cz, t1, t2⟩ := HLP.out.before (y := z) (by rw [HG.out]; exact hzy)
                      have t0 := HLP.out.at_
                      rw [HG.out] at t0
                      have t3 := t2 q[k] (by rw [tab_len]; exact hcn)
                      clear t2
                      have HPL := Lib.hid (far_any (tbP q (tab V z) k) (at0 (tab V z) q[k]) (tbP_le _ _ k) (tab_le V z _))
                      obtain ⟨d, hd⟩ : ∃ d, q[k] = d := ⟨_, rfl⟩
                      rw [hd] at hcn hu8 HSK t3 HPL
                      simp only [hd] at hidx
                      obtain ⟨D, hD⟩ : ∃ D, 97 + d = D := ⟨_, rfl⟩
                      rw [hD] at hu8
                      simp only [hD] at hidx
                      obtain ⟨x, hx⟩ : ∃ x, at0 (tab V z) d = x := ⟨_, rfl⟩
                      obtain ⟨u, hu⟩ : ∃ u, tbP q (tab V z) k = u := ⟨_, rfl⟩
                      rw [hx] at t3 HSK HPL
                      rw [hu] at HSK HPL k1 HLP
                      clear hd hD hx hu
                      have hdi : (d : Int) < (V.length : Int) := by omega
                      have hpi : (i : Int) < (V.length : Int) := by omega
                      have hzi : (z : Int) < (N : Int) := by omega
                      have hyi : (y : Int) < (N : Int) := by omega
                      have hwz : IntKind.i64.wrap (z : Int) = (z : Int) := IntWalk.i64_in _ (by omega)
                      have f1 := HLP.out.row.free i
                      go_wp2_with fail
                      go_still_tail 25, (by kernel_rfl)
                      still_call (HPL.out _)
                      repeat still_step
                      refine wpStill_nil ?_
                      change wpList _ _ _ _ _ wr.drew
                      have HB1 := Lib.hid (HLP.out.kept ((Chg.refl (fun _ => False) wr).drew))
                      clear k1 f1 hidx hu8 t0 t1 t3 hwz
                      generalize wr.drew = W1 at HB1 ⊢
                      have k1 := HB1.out.row.cell_some (uv_at (i := i) (by rw [List.length_set, prF_len HTL.out (by omega)]; exact hil))
                      have f1 := HB1.out.row.free i
                      go_wp2_with fail
                      go_roundg (q.length - (k + 1))
                      case measure => omega
                      case rel =>
                        refine ⟨k + 1, by omega, rfl, by go_num, ?_⟩
                        rw [HSK.out]
                        have h := HB1.out.set i (min (u + x) M63)
                        rw [List.set_set] at h
                        exact h
                    · obtain rfl : k = q.length := by omega
                      go_wp2_with fail
                      go_roundg (V.length - (i + 1))
                      case measure => omega
                      case rel => exact ⟨i + 1, by omega, rfl, by go_num, by rw [← HNX.out]; exact HLP.out⟩
                · obtain rfl : i = V.length := by omega
                  have HL2 : Hid (LT w1 wr tb N V (G ++ [(rb, V.length)])) := Lib.hid (by
                    have h := HLP.out
                    rw [prF_done HTL.out, ← HG.out] at h
                    exact h.close)
                  clear HLP
                  go_wp2_with fail
                  go_roundg (Y + 1 - (y + 1))
                  case measure => omega
                  case rel => exact ⟨y + 1, _, by omega, by omega, rfl, by go_num, by rw [List.length_append, HG.out]; rfl, HL2.out⟩
            · obtain rfl : y = Y + 1 := by omega
              have HTAB := Lib.hid (HLT.out.tab (Y := Y) (by rw [HG.out]; omega))
              have HC2 := Lib.hid HLT.out.chg
              have d1 : decide (((Y + 1 : Nat) : Int) ≤ (Y : Int)) = false := by simp; omega
              clear HLT HG hmk
              go_wp2_with fail
              obtain ⟨w3, hw3⟩ : ∃ w3 : World, w3 = wr := ⟨_, rfl⟩
              rw [← hw3] at HTAB HC2 ⊢
              clear hw3
              obtain ⟨RES, hRES⟩ : ∃ RES, atF V Y t L = RES := ⟨_, rfl⟩
              have HRES := Lib.hid hRES
              clear hRES
              go_loopg [20, 18, 19] Y (fun gm yv sv lv wr => ∃ (y : Nat) (s : List Nat) (l q : Nat), y ≤ Y ∧ y = gm ∧ yv = .int .i64 y ∧ sv = .string (str s) ∧ lv = .int .u64 (l : Int) ∧ (∀ c ∈ s, c < V.length) ∧ s.length ≤ 30 ∧ l < M63 ∧ atF V y s l = RES ∧ wr = w3.drewN q)
              case atStart => exact ⟨Y, t, L, 0, Nat.le_refl _, rfl, rfl, rfl, rfl, HT.out, hl, hL, HRES.out, rfl⟩
              case round =>
                obtain ⟨y, s, l, q, hyY, rfl, rfl, rfl, rfl, hs, hsl, hlm, ha, rfl⟩ := hrel
                have HSL := Lib.hid hs; have HA := Lib.hid ha
                clear hs ha
                obtain ⟨F, hF⟩ : ∃ F, fnd s (tab V y) l = F := ⟨_, rfl⟩
                have HF := Lib.hid hF
                obtain ⟨g1, c1, u1, u2⟩ := HTAB.out y hyY
                rw [Nat.zero_add] at u1
                have HU2 := Lib.hid u2; have HU1 := Lib.hid u1
                have hyi : (y : Int) < (N : Int) := by have := HNY.out; omega
                have hsz := str_size s
                have HTL := Lib.hid (tab_len V y)
                clear hF u2 u1
                go_wp2_with fail
                obtain ⟨wy, hwy⟩ : ∃ wy : World, wy = w3.drewN q := ⟨_, rfl⟩
                have HWY := Lib.hid hwy
                have HCY := Lib.hid (show Chg (fun _ => False) w1 wy by rw [hwy]; exact HC2.out.drewN q)
                rw [← hwy]
                clear hwy
                go_loopg [21, 19] s.length (fun gm iv lv wr => ∃ i l' p : Nat, i ≤ s.length ∧ gm = s.length - i ∧ iv = .int .i64 i ∧ lv = .int .u64 (l' : Int) ∧ l' < M63 ∧ fnd (s.drop i) (tab V y) l' = F ∧ wr = wy.drewN p)
                case atStart => exact ⟨0, l, 0, by omega, by omega, rfl, rfl, hlm, HF.out, rfl⟩
                case round =>
                  obtain ⟨i, l', p, hi, rfl, rfl, rfl, hlm', hff, rfl⟩ := hrel
                  by_cases hil : i < s.length
                  · have d2 : decide (i < s.length) = true := by simpa using hil
                    have hie : ¬ (i : Int) = (s.length : Int) := by omega
                    rw [fnd_drop hil] at hff
                    have HFF := Lib.hid hff
                    clear hff
                    have hcn := HSL.out _ (List.getElem_mem hil)
                    have hidx := index_chr hil (by omega)
                    have hu8 := u8_chr s[i] (by omega)
                    have HON := Lib.hid (str_one hil)
                    have u1 := HU1.out
                    have u3 := HU2.out s[i] (by rw [HTL.out]; exact hcn)
                    obtain ⟨c, hc⟩ : ∃ c, s[i] = c := ⟨_, rfl⟩
                    rw [hc] at hcn hu8 u3 HFF HON
                    simp only [hc] at hidx
                    obtain ⟨C, hC⟩ : ∃ C, 97 + c = C := ⟨_, rfl⟩
                    rw [hC] at hu8
                    simp only [hC] at hidx
                    obtain ⟨x, hx⟩ : ∃ x, at0 (tab V y) c = x := ⟨_, rfl⟩
                    rw [hx] at u3 HFF
                    clear hc hC hx
                    have hci : (c : Int) < (V.length : Int) := by omega
                    have u1' : wy.cell? ⟨tb, y, none⟩ = some (.slice (some ⟨g1, 0, none⟩) V.length c1) := by rw [HWY.out]; exact u1
                    have u3' : wy.cell? ⟨g1, c, none⟩ = some (.int .u64 (x : Int)) := by rw [HWY.out]; exact u3
                    clear u1 u3
                    by_cases hxl : x ≤ l'
                    · have d5 : decide (x ≤ l') = true := by simpa using hxl
                      rw [if_pos hxl] at HFF
                      have hwx : IntKind.u64.wrap ((l' : Int) - (x : Int)) = (l' : Int) - (x : Int) := by unfold M63 at hlm'; simp [IntKind.wrap, IntKind.bits, IntKind.signed]; omega
                      go_wp2_with fail
                      go_quiet (fail)
                      go_wp2_with fail
                      go_quiet (fail)
                      go_wp2_with fail
                      go_roundg (s.length - (i + 1))
                      case measure => omega
                      case rel => exact ⟨i + 1, l' - x, _, by omega, rfl, by go_num, by congr 1; omega, by omega, HFF.out, rfl⟩
                    · have d5 : decide (x ≤ l') = false := by simpa using hxl
                      rw [if_neg hxl] at HFF
                      cases y with
                      | zero =>
                        have HRC : Hid (RES = some c) := Lib.hid (by
                          have h := HA.out
                          rw [atF, HF.out, ← HFF.out] at h
                          simpa using h.symm)
                        go_wp2_with fail
                        go_quiet (fail)
                        go_wp2_with fail
                        go_ret2
                        refine ⟨?_, HCY.out.drewN _⟩
                        rw [HR2.out, show (Y : Int).toNat = Y from rfl, show (L : Int).toNat = L from rfl, HRES.out, HRC.out]
                        show _ = Ending.returned (.tuple #[.string (str [c]), .int .i64 0])
                        rw [← HON.out]
                        rfl
                      | succ y =>
                        have v1 := (HV.out.chg HC2.out (fun x => x)) c hcn
                        rw [← part_lt hcn] at v1
                        have v1' : wy.cell? ⟨b, off + c, none⟩ = some (.string (str (part V c))) := by rw [HWY.out]; exact v1
                        have HNA : Hid (atF V y (part V c) l' = RES) := Lib.hid (by
                          have h := HA.out
                          rw [atF, HF.out, ← HFF.out] at h
                          exact h)
                        have HPS := Lib.hid (HWF.out.part_le c)
                        obtain ⟨ps, hps⟩ : ∃ ps, part V c = ps := ⟨_, rfl⟩
                        rw [hps] at v1' HNA HPS
                        clear v1 hps
                        obtain ⟨z, hz⟩ : ∃ z, y + 1 = z := ⟨_, rfl⟩
                        have HZ := Lib.hid hz
                        have hz0 : ¬ (z : Int) = 0 := by omega
                        have hz1 : (z : Int) - 1 = (y : Int) := by omega
                        rw [hz] at u1' hyi hyY ⊢
                        clear hz
                        go_wp2_with fail
                        go_quiet (fail)
                        go_wp2_with fail
                        go_roundg y
                        case measure => omega
                        case rel => exact ⟨y, ps, l', q + (p + nq), by have := HZ.out; omega, rfl, rfl, rfl, rfl, HPS.out.2, by have := HPS.out.1; omega, hlm', HNA.out, by rw [HWY.out]; simp⟩
                  · obtain rfl : i = s.length := by omega
                    have d2 : decide (s.length < s.length) = false := by simp
                    rw [List.drop_length] at hff
                    have HRN : Hid (RES = none) := Lib.hid (by
                      have h := HA.out
                      cases y <;> (rw [atF, HF.out, ← hff] at h; simpa [fnd] using h.symm))
                    clear hff
                    go_wp2_with fail
                    go_quiet (fail)
                    go_wp2_with fail
                    go_ret2
                    refine ⟨?_, HCY.out.drewN _⟩
                    rw [HR2.out, show (Y : Int).toNat = Y from rfl, show (L : Int).toNat = L from rfl, HRES.out, HRN.out]
                    rfl
  · have HR := Lib.hid (show atOk V t years place = .tuple #[.string ⟨#[]⟩, .int .i64 3] from if_pos hy)
    rw [decide_eq_false hy] at HYR
    clear hy
    go_enter Tryd.func41, Tryd.ntmps41
    go_wp2_with fail
    refine HS.out.mono ?_
    rintro e w1 ⟨rfl, rfl⟩
    go_wp2_with fail
    refine HYR.out.mono ?_
    rintro e w1 ⟨rfl, rfl⟩
    go_wp2_with fail
    go_ret2
    exact ⟨by rw [HR.out]; rfl, Chg.refl _ _⟩
end Go.Proofs.YtilacamhjibneaaDoor

/- few; both Ats at any input; the law VineAt, walked. No condition but the arguments' cells. -/
namespace Go.Proofs.YtilacamhjibneaaDoor
open Go.RowKit

/-- A slice of strings, or none. -/
structure SlS (w : World) (v : Value) (P : List ByteArray) : Prop where
  form : ∃ ao b off c, v = .slice ao P.length c ∧ StrsAt w b off P ∧ (P = [] ∨ ao = some ⟨b, off, none⟩)
  len : P.length ≤ maxLen
  each : ∀ p ∈ P, p.size ≤ maxLen
theorem SlS.chg {w w' : World} {v : Value} {P : List ByteArray} (h : SlS w v P) (hc : Chg (fun _ => False) w w') : SlS w' v P := by
  obtain ⟨ao, b, off, c, h1, h2, h3⟩ := h.form
  exact ⟨⟨ao, b, off, c, h1, h2.chg hc (fun x => x), h3⟩, h.len, h.each⟩

def fwF (P : List ByteArray) : Nat → Bool
  | 0 => true
  | k + 1 => fwF P k && decide (k < 20) && decide ((P[k]?.getD ⟨#[]⟩).size ≤ 50)
def fewV (P : List ByteArray) (s : ByteArray) : Bool := fwF P P.length && decide (s.size ≤ 100)
theorem fwF_bad {P : List ByteArray} {j : Nat} (h : (decide (j < 20) && decide ((P[j]?.getD ⟨#[]⟩).size ≤ 50)) = false) : ∀ k, j < k → fwF P k = false
  | 0, hk => by omega
  | k + 1, hk => by
    rw [fwF, Bool.and_assoc]
    by_cases hj : j = k
    · subst hj; rw [h, Bool.and_false]
    · rw [fwF_bad h k (by omega), Bool.false_and]
theorem fwF_at {P : List ByteArray} : ∀ {k : Nat}, fwF P k = true → ∀ j, j < k → j < 20 ∧ (P[j]?.getD ⟨#[]⟩).size ≤ 50
  | 0, _, j, hj => by omega
  | k + 1, h, j, hj => by
    rw [fwF, Bool.and_eq_true, Bool.and_eq_true] at h
    by_cases hk : j = k
    · subst hk
      exact ⟨by simpa using h.1.2, by simpa using h.2⟩
    · exact fwF_at h.1.1 j (by omega)
theorem few_small {P : List ByteArray} {s : ByteArray} (h : fewV P s = true) : P.length ≤ 1000 ∧ (∀ p ∈ P, p.size ≤ 1000) ∧ s.size ≤ 1000 := by
  unfold fewV at h
  rw [Bool.and_eq_true] at h
  have h2 : s.size ≤ 100 := by simpa using h.2
  have h1 := fwF_at h.1
  refine ⟨?_, fun p hp => ?_, by omega⟩
  · rcases Nat.eq_zero_or_pos P.length with h0 | h0
    · omega
    · have := (h1 (P.length - 1) (by omega)).1; omega
  · obtain ⟨j, hj, rfl⟩ := List.getElem_of_mem hp
    have := (h1 j hj).2
    rw [List.getElem?_eq_getElem hj] at this
    have h3 : P[j].size ≤ 50 := this
    omega

set_option maxRecDepth 100000 in
set_option maxHeartbeats 1000000 in
theorem few_any (P : List ByteArray) (s : ByteArray) (v : Value) (w : World) (hv : SlS w v P) (hs : s.size ≤ maxLen) :
    Calls Tryd.prog 15 #[v, .string s] w fun e w' => e = .returned (.bool (fewV P s)) ∧ w' = w := by
  have HV := Lib.hid hv
  have hlen := hv.len
  unfold maxLen at hlen hs
  obtain ⟨ao, b, off, cap, rfl, hst, ha⟩ := hv.form
  have HST := Lib.hid hst; have HA := Lib.hid ha
  have HBD := Lib.hid (fun (j : Nat) (h : (decide (j < 20) && decide ((P[j]?.getD ⟨#[]⟩).size ≤ 50)) = false) => fwF_bad h)
  have HFW := Lib.hid (show fewV P s = (fwF P P.length && decide (s.size ≤ 100)) from rfl)
  obtain ⟨n, hn⟩ : ∃ n, P.length = n := ⟨_, rfl⟩
  have HN := Lib.hid hn
  rw [hn] at hlen HFW ⊢
  clear hst ha hn hv
  go_enter Tryd.func15, Tryd.ntmps15
  go_wp2_with fail
  go_loopg [5] n (fun gm iv wr => ∃ i : Nat, i ≤ n ∧ i ≤ 20 ∧ gm = n - i ∧ iv = .int .i64 i ∧ fwF P i = true ∧ wr = w)
  case atStart => exact ⟨0, by omega, by omega, by omega, rfl, rfl, rfl⟩
  case round =>
    obtain ⟨i, hi, hi20, rfl, rfl, hf, rfl⟩ := hrel
    have HF := Lib.hid hf
    clear hf
    by_cases hin : i < n
    · have d0 : decide (i < n) = true := by simpa using hin
      by_cases h20 : i < 20
      · have d1 : decide ((20 : Int) ≤ (i : Int)) = false := by simp; omega
        obtain rfl := HA.out.resolve_left (fun e => by have := HN.out; rw [e] at this; simp at this; omega)
        have hiP : i < P.length := by rw [HN.out]; exact hin
        have c0 := HST.out i hiP
        have hsz := HV.out.each _ (List.getElem_mem hiP)
        unfold maxLen at hsz
        have HNX := Lib.hid (show fwF P (i + 1) = (fwF P i && decide (i < 20) && decide (P[i].size ≤ 50)) by rw [fwF, List.getElem?_eq_getElem hiP]; rfl)
        have HBI := Lib.hid (HBD.out i)
        rw [List.getElem?_eq_getElem hiP] at HBI
        obtain ⟨p, hp⟩ : ∃ p, P[i] = p := ⟨_, rfl⟩
        rw [hp] at c0 hsz HNX
        have HBI2 : Hid ((decide (i < 20) && decide (p.size ≤ 50)) = false → ∀ k, i < k → fwF P k = false) := Lib.hid (by rw [← hp]; exact HBI.out)
        clear hp hiP HBI
        by_cases h50 : p.size ≤ 50
        · have d2 : decide ((50 : Int) < (p.size : Int)) = false := by simp; omega
          rw [HF.out, decide_eq_true h20, decide_eq_true h50] at HNX
          go_wp2_with fail
          go_roundg (n - (i + 1))
          case measure => omega
          case rel => exact ⟨i + 1, by omega, by omega, rfl, by go_num, HNX.out, rfl⟩
        · have d2 : decide ((50 : Int) < (p.size : Int)) = true := by simp; omega
          have HFF := Lib.hid (HBI2.out (by rw [decide_eq_false h50, Bool.and_false]) n hin)
          go_wp2_with fail
          go_ret
          exact ⟨by rw [HFW.out, HFF.out]; rfl, rfl⟩
      · have d1 : decide ((20 : Int) ≤ (i : Int)) = true := by simp; omega
        have HFF := Lib.hid (HBD.out i (by rw [decide_eq_false h20, Bool.false_and]) n hin)
        go_wp2_with fail
        go_ret
        exact ⟨by rw [HFW.out, HFF.out]; rfl, rfl⟩
    · obtain rfl : i = n := by omega
      go_wp2_with fail
      go_ret
      exact ⟨by rw [HFW.out, HF.out]; simp; omega, rfl⟩

set_option maxRecDepth 100000 in
set_option maxHeartbeats 1000000 in
/-- Both Ats return the same, at any input that is small. -/
theorem at_both (P : List ByteArray) (s : ByteArray) (years place : Int) (hyi : I64 years) (hpi : I64 place) (hn : P.length ≤ 1000) (hz : ∀ p ∈ P, p.size ≤ 1000) (hzs : s.size ≤ 1000) :
    ∃ (sA : ByteArray) (eA : Int), ∀ (v : Value) (w : World), SlS w v P →
      (Calls Tryd.prog 41 #[v, .string s, .int .i64 years, .int .i64 place] w fun e w' => e = .returned (.tuple #[.string sA, .int .i64 eA]) ∧ Chg (fun _ => False) w w') ∧
      (Calls Tryd.prog 42 #[v, .string s, .int .i64 years, .int .i64 place] w fun e w' => e = .returned (.tuple #[.string sA, .int .i64 eA]) ∧ Chg (fun _ => False) w w') := by
  by_cases he : errS P s = 0
  · obtain ⟨V, t, rfl, rfl, hV, hl, ht⟩ := shot_of he
    have hat : ∃ sA eA, atOk V t years place = .tuple #[.string sA, .int .i64 eA] := by
      unfold atOk
      split
      · exact ⟨_, _, rfl⟩
      · split
        · exact ⟨_, _, rfl⟩
        · split <;> exact ⟨_, _, rfl⟩
    obtain ⟨sA, eA, hA⟩ := hat
    refine ⟨sA, eA, fun v w hv => ?_⟩
    obtain ⟨ao, b, off, cap, rfl, hst, ha⟩ := hv.form
    have hpos := hV.pos
    obtain rfl := ha.resolve_left (fun e => by have h0 := congrArg List.length e; rw [List.length_map, List.length_nil] at h0; omega)
    have hva := vat_of hst
    rw [List.length_map]
    have h1 := at_ok V hV t ht hl years place hyi hpi b off cap w hva
    have h2 := rAt_ok V hV t ht hl years place hyi hpi b off cap w hva
    rw [hA] at h1 h2
    exact ⟨h1, h2⟩
  · refine ⟨⟨#[]⟩, (errS P s : Nat), fun v w hv => ?_⟩
    obtain ⟨ao, b, off, cap, rfl, hst, ha⟩ := hv.form
    have HS := Lib.hid (shot_any P s ao cap b off w hst ha hn hz hzs)
    rw [show shotV ao cap P s = .tuple #[.slice none 0 0, .int .i64 (errS P s : Nat)] by unfold shotV; rw [if_neg he]] at HS
    have HR := Lib.hid (rshoot_any P s ao cap b off w hst ha hn hz hzs)
    obtain ⟨E, hE⟩ : ∃ E, errS P s = E := ⟨_, rfl⟩
    rw [hE] at HS HR ⊢
    have dn : (((E : Nat) : Int) != 0) = true := by simpa [hE] using he
    clear hE he hst ha hv
    constructor
    · go_enter Tryd.func41, Tryd.ntmps41
      go_wp2_with fail
      refine HS.out.mono ?_
      rintro e w1 ⟨rfl, rfl⟩
      go_wp2_with fail
      go_ret2
      exact ⟨rfl, Chg.refl _ _⟩
    · go_enter Tryd.func42, Tryd.ntmps42
      go_wp2_with fail
      refine HR.out.mono ?_
      rintro e w1 ⟨rfl, rfl⟩
      go_wp2_with fail
      go_ret2
      exact ⟨rfl, Chg.refl _ _⟩

set_option maxRecDepth 100000 in
set_option maxHeartbeats 1000000 in
theorem vineAt_law (P : List ByteArray) (s : ByteArray) (years place : Int) (hyi : I64 years) (hpi : I64 place) (v : Value) (w : World) (hv : SlS w v P) (hs : s.size ≤ maxLen) :
    Calls Tryd.prog 11 #[v, .string s, .int .i64 years, .int .i64 place] w fun e w' => e = .returned (.bool true) ∧ Chg (fun _ => False) w w' := by
  have HF := Lib.hid (few_any P s v w hv hs)
  by_cases hfew : fewV P s = true
  · obtain ⟨hn, hz, hzs⟩ := few_small hfew
    rw [hfew] at HF
    obtain ⟨sA, eA, hb⟩ := at_both P s years place hyi hpi hn hz hzs
    have HB := Lib.hid hb
    have HV := Lib.hid hv
    clear hb hfew hn hz hzs hv
    go_enter Tryd.func11, Tryd.ntmps11
    go_wp2_with fail
    refine HF.out.mono ?_
    rintro e w1 ⟨rfl, rfl⟩
    go_wp2_with fail
    refine ((HB.out v w1 HV.out).1).mono ?_
    rintro e w2 ⟨rfl, hc2⟩
    have HC2 := Lib.hid hc2
    clear hc2
    go_wp2_with fail
    refine ((HB.out v w2 (HV.out.chg HC2.out)).2).mono ?_
    rintro e w3 ⟨rfl, hc3⟩
    have HC3 := Lib.hid (HC2.out.trans hc3 (fun _ x => x.elim))
    clear hc3
    go_wp2_with fail
    refine (alive_any w3).mono ?_
    rintro e w4 ⟨rfl, hc4⟩
    have HC4 := Lib.hid (HC3.out.trans hc4 (fun _ x => x.elim))
    clear hc4
    go_wp2_with fail
    go_ret
    exact ⟨rfl, HC4.out⟩
  · have hff : fewV P s = false := by simpa using hfew
    rw [hff] at HF
    clear hfew hff hv
    go_enter Tryd.func11, Tryd.ntmps11
    go_wp2_with fail
    refine HF.out.mono ?_
    rintro e w1 ⟨rfl, rfl⟩
    go_wp2_with fail
    refine (alive_any w1).mono ?_
    rintro e w2 ⟨rfl, hc2⟩
    have HC2 := Lib.hid hc2
    clear hc2
    go_wp2_with fail
    go_ret
    exact ⟨rfl, HC2.out⟩
end Go.Proofs.YtilacamhjibneaaDoor

/- The shoot after some years, as a list; its length by the tallies and by the table, where no bound is met. No condition. -/
namespace Go.Proofs.YtilacamhjibneaaDoor
open Go.RowKit

def gen (V : List (List Nat)) : Nat → List Nat → List Nat
  | 0, s => s
  | y + 1, s => gen V y (grow1 V s)
theorem gen_app (V : List (List Nat)) : ∀ (y : Nat) (s t : List Nat), gen V y (s ++ t) = gen V y s ++ gen V y t
  | 0, _, _ => rfl
  | y + 1, s, t => by
    show gen V y (grow1 V (s ++ t)) = _
    unfold grow1
    rw [List.flatMap_append, gen_app V y]
    rfl
theorem gen_nil (V : List (List Nat)) : ∀ y, gen V y [] = []
  | 0 => rfl
  | y + 1 => gen_nil V y
theorem gen_succ (V : List (List Nat)) : ∀ (y : Nat) (s : List Nat), gen V (y + 1) s = grow1 V (gen V y s)
  | 0, s => rfl
  | y + 1, s => gen_succ V y (grow1 V s)
theorem gen_cons (V : List (List Nat)) (y : Nat) (c : Nat) (s : List Nat) : gen V (y + 1) (c :: s) = gen V y (part V c) ++ gen V (y + 1) s := by
  show gen V y (grow1 V (c :: s)) = _
  unfold grow1
  rw [List.flatMap_cons, gen_app]
  rfl
theorem gen_lt {V : List (List Nat)} (hV : WF V) : ∀ (y : Nat) (s : List Nat), (∀ c ∈ s, c < V.length) → ∀ c ∈ gen V y s, c < V.length
  | 0, s, h => h
  | y + 1, s, h => gen_lt hV y (grow1 V s) (fun c hc => by
    unfold grow1 at hc
    obtain ⟨d, _, hc⟩ := List.mem_flatMap.1 hc
    exact (hV.part_le d).2 c hc)
theorem gen_len {V : List (List Nat)} (hV : WF V) : ∀ (y : Nat) (s : List Nat), (gen V y s).length ≤ 8 ^ y * s.length
  | 0, s => by simp [gen]
  | y + 1, s => by
    have h1 := gen_len hV y (grow1 V s)
    have h2 := grow1_len hV s
    show (gen V y (grow1 V s)).length ≤ _
    calc (gen V y (grow1 V s)).length ≤ 8 ^ y * (grow1 V s).length := h1
      _ ≤ 8 ^ y * (8 * s.length) := Nat.mul_le_mul_left _ h2
      _ = 8 ^ (y + 1) * s.length := by rw [Nat.pow_succ, Nat.mul_assoc]

/-- By the table. -/
theorem lng_gen {V : List (List Nat)} (hV : WF V) : ∀ (y : Nat) (s : List Nat), (∀ c ∈ s, c < V.length) → lngV s (tab V y) = min (gen V y s).length M63
  | 0, s, hs => by
    rw [lngV_eq]
    congr 1
    unfold sm
    induction s with
    | nil => rfl
    | cons c s ih =>
      have h0 := tab_zero (hs c (by simp))
      have := ih (fun d hd => hs d (by simp [hd]))
      rw [List.map_cons, List.sum_cons, h0, this]
      show 1 + s.length = s.length + 1
      omega
  | y + 1, s, hs => by
    rw [lngV_eq]
    have key : ∀ s : List Nat, (∀ c ∈ s, c < V.length) → min (sm s (tab V (y + 1))) M63 = min (gen V (y + 1) s).length M63 := by
      intro s hs
      induction s with
      | nil => rw [gen_nil]; rfl
      | cons c s ih =>
        have hc := hs c (by simp)
        have h1 := ih (fun d hd => hs d (by simp [hd]))
        have h2 := lng_gen hV y (part V c) (hV.part_le c).2
        rw [gen_cons, List.length_append, show sm (c :: s) (tab V (y + 1)) = at0 (tab V (y + 1)) c + sm s (tab V (y + 1)) by simp [sm], tab_succ hc, h2]
        omega
    exact key s hs

/-! ### By the tallies -/
def sg (f : Nat → Nat) : Nat → Nat
  | 0 => 0
  | k + 1 => sg f k + f k
theorem sg_congr {f g : Nat → Nat} : ∀ k, (∀ j, j < k → f j = g j) → sg f k = sg g k
  | 0, _ => rfl
  | k + 1, h => by rw [sg, sg, sg_congr k (fun j hj => h j (by omega)), h k (by omega)]
theorem sg_add (f g : Nat → Nat) : ∀ k, sg (fun j => f j + g j) k = sg f k + sg g k
  | 0 => rfl
  | k + 1 => by rw [sg, sg, sg, sg_add f g k]; omega
theorem sg_one (n c : Nat) (x : Nat) : ∀ k, sg (fun j => if j = c then x else 0) k = if c < k then x else 0
  | 0 => rfl
  | k + 1 => by
    rw [sg, sg_one n c x k]
    by_cases h : k = c
    · subst h; simp
    · by_cases h2 : c < k
      · rw [if_pos h2, if_neg h, if_pos (by omega), Nat.add_zero]
      · rw [if_neg h2, if_neg h, if_neg (by omega)]
theorem cntF_at {n : Nat} {t : List Nat} (ht : ∀ c ∈ t, c < n) (c : Nat) (hc : c < n) : ∀ k, k ≤ t.length → at0 (cntF n t k) c = (t.take k).count c
  | 0, _ => by
    unfold cntF at0
    rw [List.getElem?_replicate, if_pos hc]
    simp
  | k + 1, hk => by
    have hk' : k < t.length := hk
    have hd := ht _ (List.getElem_mem hk')
    rw [cntF, at0_lt_of hk', at0_set _ _ _ _ (by rw [cntF_len]; exact hd), List.take_succ_eq_append_getElem hk', List.count_append, cntF_at ht c hc k (by omega)]
    by_cases h : t[k] = c
    · rw [if_pos h, h, cntF_at ht c hc k (by omega)]
      simp
    · rw [if_neg h]
      simp [h]
theorem cntV_at {n : Nat} {t : List Nat} (ht : ∀ c ∈ t, c < n) {c : Nat} (hc : c < n) : at0 (cntV n t) c = t.count c := by
  unfold cntV
  rw [cntF_at ht c hc _ (Nat.le_refl _), List.take_length]
theorem aftP_at {p o : List Nat} {x : Nat} (hp : ∀ c ∈ p, c < o.length) (c : Nat) (hc : c < o.length) (ho : at0 o c ≤ lim) : ∀ k, k ≤ p.length → at0 (aftP p x o k) c = min (at0 o c + x * (p.take k).count c) lim
  | 0, _ => by simp [aftP]; omega
  | k + 1, hk => by
    have hk' : k < p.length := hk
    have hd := hp _ (List.getElem_mem hk')
    rw [aftP, at0_lt_of hk', at0_set _ _ _ _ (by rw [aftP_len]; exact hd), List.take_succ_eq_append_getElem hk', List.count_append]
    by_cases h : p[k] = c
    · rw [if_pos h, h, aftP_at hp c hc ho k (by omega)]
      simp [Nat.mul_add]
      omega
    · rw [if_neg h, aftP_at hp c hc ho k (by omega)]
      simp [h]
theorem aftF_at {V : List (List Nat)} (hV : WF V) (T : List Nat) (c : Nat) (hc : c < V.length) : ∀ i, at0 (aftF V T i) c = min (sg (fun j => at0 T j * (part V j).count c) i) lim
  | 0 => by
    unfold aftF at0
    rw [List.getElem?_replicate, if_pos hc]
    rfl
  | i + 1 => by
    have ih := aftF_at hV T c hc i
    rw [aftF, aftP_at (by rw [aftF_len]; exact (hV.part_le i).2) c (by rw [aftF_len]; exact hc) (by rw [ih]; omega) _ (Nat.le_refl _), List.take_length, ih, sg]
    omega
theorem min_sg (L : Nat) (a b : Nat → Nat) : ∀ k, min (sg (fun j => min (a j) L * b j) k) L = min (sg (fun j => a j * b j) k) L
  | 0 => rfl
  | k + 1 => by
    have ih := min_sg L a b k
    rw [sg, sg]
    by_cases h : a k ≤ L
    · rw [Nat.min_eq_left h]
      omega
    · rw [Nat.min_eq_right (by omega : L ≤ a k)]
      rcases Nat.eq_zero_or_pos (b k) with hb | hb
      · rw [hb]; omega
      · have h1 : L ≤ L * b k := Nat.le_mul_of_pos_right L hb
        have h2 : a k ≤ a k * b k := Nat.le_mul_of_pos_right _ hb
        omega
theorem count_grow1 {V : List (List Nat)} (c : Nat) : ∀ s : List Nat, (∀ d ∈ s, d < V.length) → (grow1 V s).count c = sg (fun j => s.count j * (part V j).count c) V.length
  | [], _ => by
    rw [sg_congr (g := fun _ => 0) V.length (fun j _ => by simp)]
    have : ∀ k, sg (fun _ => 0) k = 0 := fun k => by induction k with | zero => rfl | succ k ih => rw [sg, ih]
    rw [this]
    rfl
  | d :: s, hs => by
    have ih := count_grow1 (V := V) c s (fun x hx => hs x (by simp [hx]))
    have e : grow1 V (d :: s) = part V d ++ grow1 V s := by unfold grow1; rw [List.flatMap_cons]
    have e2 : sg (fun j => (d :: s).count j * (part V j).count c) V.length = sg (fun j => s.count j * (part V j).count c) V.length + (part V d).count c := by
      rw [sg_congr (g := fun j => s.count j * (part V j).count c + (if j = d then (part V d).count c else 0)) V.length (fun j _ => by
        rw [List.count_cons]
        by_cases h : j = d
        · subst h; simp [Nat.add_mul]
        · have : ¬ d = j := fun e => h e.symm
          simp [h, this]), sg_add, sg_one V.length d _ V.length, if_pos (hs d (by simp))]
    rw [e, List.count_append, ih, e2]
    omega
theorem agedF_at {V : List (List Nat)} (hV : WF V) {t : List Nat} (ht : ∀ c ∈ t, c < V.length) (hl : t.length ≤ lim) : ∀ (y c : Nat), c < V.length → at0 (agedF V t y) c = min ((gen V y t).count c) lim
  | 0, c, hc => by
    rw [agedF, cntV_at ht hc]
    have := List.count_le_length (a := c) (l := t)
    show _ = min (t.count c) lim
    omega
  | y + 1, c, hc => by
    rw [agedF, aftV, aftF_at hV _ c hc, sg_congr (g := fun j => min ((gen V y t).count j) lim * (part V j).count c) V.length (fun j hj => by rw [agedF_at hV ht hl y j hj]), min_sg, ← count_grow1 c _ (gen_lt hV y t ht), gen_succ]
theorem sumF_at (T : List Nat) : ∀ k, sumF T k = min (sg (at0 T) k) lim
  | 0 => rfl
  | k + 1 => by rw [sumF, sumF_at T k, sg]; omega
theorem sum_count {n : Nat} : ∀ s : List Nat, (∀ d ∈ s, d < n) → sg (fun j => s.count j) n = s.length
  | [], _ => by
    have : ∀ k, sg (fun j => ([] : List Nat).count j) k = 0 := fun k => by induction k with | zero => rfl | succ k ih => rw [sg, ih]; rfl
    rw [this]
    rfl
  | d :: s, hs => by
    have ih := sum_count (n := n) s (fun x hx => hs x (by simp [hx]))
    rw [sg_congr (g := fun j => s.count j + (if j = d then 1 else 0)) n (fun j _ => by
      rw [List.count_cons]
      by_cases h : j = d
      · subst h; simp
      · have : ¬ d = j := fun e => h e.symm
        simp [h, this]), sg_add, sg_one n d _ n, if_pos (hs d (by simp)), ih]
    rfl
/-- The tallies' sum is how long the shoot is, up to the bound. -/
theorem sum_gen {V : List (List Nat)} (hV : WF V) {t : List Nat} (ht : ∀ c ∈ t, c < V.length) (hl : t.length ≤ lim) (y : Nat) : sumV (agedF V t y) = min (gen V y t).length lim := by
  unfold sumV
  rw [sumF_at, agedF_len, sg_congr (g := fun j => min ((gen V y t).count j) lim * 1) V.length (fun j hj => by rw [agedF_at hV ht hl y j hj, Nat.mul_one]), min_sg lim (fun j => (gen V y t).count j) (fun _ => 1) V.length,
    sg_congr (g := fun j => (gen V y t).count j) V.length (fun j _ => Nat.mul_one _), sum_count _ (gen_lt hV y t ht)]
end Go.Proofs.YtilacamhjibneaaDoor

/- Same, walked, both. Their conditions are their premises. -/
namespace Go.Proofs.YtilacamhjibneaaDoor
open Go.RowKit

def ln (V : List (List Nat)) (t : List Nat) (y : Nat) : Nat := (gen V y t).length
theorem ln_small {V : List (List Nat)} (hV : WF V) {t : List Nat} (hl : t.length ≤ 30) {y : Nat} (hy : y ≤ 12) : ln V t y ≤ 2061584302080 := by
  have h := gen_len hV y t
  have h2 : 8 ^ y ≤ 8 ^ 12 := Nat.pow_le_pow_right (by decide) hy
  have h3 : 8 ^ y * t.length ≤ 8 ^ 12 * 30 := Nat.mul_le_mul h2 hl
  have : (8 : Nat) ^ 12 * 30 = 2061584302080 := by decide
  unfold ln
  omega
theorem sum_ln {V : List (List Nat)} (hV : WF V) {t : List Nat} (ht : ∀ c ∈ t, c < V.length) (hl : t.length ≤ 30) {y : Nat} (hy : y ≤ 12) : sumV (agedF V t y) = ln V t y := by
  have h := ln_small hV hl hy
  rw [sum_gen hV ht (by unfold lim; omega) y]
  unfold ln lim at *
  omega
theorem lng_ln {V : List (List Nat)} (hV : WF V) {t : List Nat} (ht : ∀ c ∈ t, c < V.length) (hl : t.length ≤ 30) {y : Nat} (hy : y ≤ 12) : lngV t (tab V y) = ln V t y := by
  have h := ln_small hV hl hy
  rw [lng_gen hV y t ht]
  unfold ln M63 at *
  omega
/-- The first year, from y on, in which they differ; f years are looked at. -/
def sameF (a b : Nat → Nat) : Nat → Nat → Value
  | 0, _ => .tuple #[.int .i64 0, .int .i64 10]
  | f + 1, y => if a y = b y then sameF a b f (y + 1) else .tuple #[.int .i64 (y : Int), .int .i64 0]

theorem two_ok (V : List (List Nat)) (hV : WF V) (t : List Nat) (ht : ∀ c ∈ t, c < V.length) (hl : t.length ≤ 30) (b off cap : Nat) (W : List (List Nat)) (hW : WF W) (u : List Nat) (hu : ∀ c ∈ u, c < W.length) (hul : u.length ≤ 30) (b2 off2 cap2 : Nat) (w : World) (hv : VAt w b off V) (hw : VAt w b2 off2 W) :
    Calls Tryd.prog 79 #[.slice (some ⟨b, off, none⟩) V.length cap, .string (str t), .slice (some ⟨b2, off2, none⟩) W.length cap2, .string (str u)] w fun e w' => e = .returned (.tuple #[.slice (some ⟨b, off, none⟩) V.length cap, .slice (some ⟨b2, off2, none⟩) W.length cap2, .int .i64 0]) ∧ w' = w := by
  have H1 := Lib.hid (shot_ok V hV t ht hl b off cap w hv)
  have H2 := Lib.hid (shot_ok W hW u hu hul b2 off2 cap2 w hw)
  clear hv hw hV hW ht hu
  go_enter Tryd.func79, Tryd.ntmps79
  go_wp2_with fail
  refine H1.out.mono ?_
  rintro e w1 ⟨rfl, rfl⟩
  go_wp2_with fail
  refine H2.out.mono ?_
  rintro e w1 ⟨rfl, rfl⟩
  go_wp2_with fail
  go_ret3
  exact ⟨rfl, rfl⟩
theorem both_ok (V : List (List Nat)) (hV : WF V) (t : List Nat) (ht : ∀ c ∈ t, c < V.length) (hl : t.length ≤ 30) (b off cap : Nat) (W : List (List Nat)) (hW : WF W) (u : List Nat) (hu : ∀ c ∈ u, c < W.length) (hul : u.length ≤ 30) (b2 off2 cap2 : Nat) (w : World) (hv : VAt w b off V) (hw : VAt w b2 off2 W) :
    Calls Tryd.prog 80 #[.slice (some ⟨b, off, none⟩) V.length cap, .string (str t), .slice (some ⟨b2, off2, none⟩) W.length cap2, .string (str u)] w fun e w' => e = .returned (.int .i64 0) ∧ w' = w := by
  have H1 := Lib.hid (rshoot_ok V hV t ht hl b off cap w hv)
  have H2 := Lib.hid (rshoot_ok W hW u hu hul b2 off2 cap2 w hw)
  clear hv hw hV hW ht hu
  go_enter Tryd.func80, Tryd.ntmps80
  go_wp2_with fail
  refine H1.out.mono ?_
  rintro e w1 ⟨rfl, rfl⟩
  go_wp2_with fail
  refine H2.out.mono ?_
  rintro e w1 ⟨rfl, rfl⟩
  go_wp2_with fail
  go_ret
  exact ⟨rfl, rfl⟩

set_option maxRecDepth 100000 in
set_option maxHeartbeats 1000000 in
theorem same_ok (V : List (List Nat)) (hV : WF V) (t : List Nat) (ht : ∀ c ∈ t, c < V.length) (hl : t.length ≤ 30) (b off cap : Nat) (W : List (List Nat)) (hW : WF W) (u : List Nat) (hu : ∀ c ∈ u, c < W.length) (hul : u.length ≤ 30) (b2 off2 cap2 : Nat) (w : World) (hv : VAt w b off V) (hw : VAt w b2 off2 W) :
    Calls Tryd.prog 37 #[.slice (some ⟨b, off, none⟩) V.length cap, .string (str t), .slice (some ⟨b2, off2, none⟩) W.length cap2, .string (str u)] w fun e w' => e = .returned (sameF (ln V t) (ln W u) (V.length + W.length) 0) ∧ Chg (fun _ => False) w w' := by
  have hn6 := hV.le
  have hm6 := hW.le
  have HTW := Lib.hid (two_ok V hV t ht hl b off cap W hW u hu hul b2 off2 cap2 w hv hw)
  have HV := Lib.hid hv; have HW := Lib.hid hw; have HWV := Lib.hid hV; have HWW := Lib.hid hW; have HT := Lib.hid ht; have HU := Lib.hid hu
  have HCV := Lib.hid (fun w => counts_any V.length t (some ⟨b, off, none⟩) cap w (by omega) ht (by omega))
  have HCW := Lib.hid (fun w => counts_any W.length u (some ⟨b2, off2, none⟩) cap2 w (by omega) hu (by omega))
  have HLV := Lib.hid (agedF_len V t); have HLW := Lib.hid (agedF_len W u)
  have HEV := Lib.hid (agedF_le V t (by omega)); have HEW := Lib.hid (agedF_le W u (by omega))
  clear hv hw hV hW ht hu
  obtain ⟨R, hR⟩ : ∃ R, sameF (ln V t) (ln W u) (V.length + W.length) 0 = R := ⟨_, rfl⟩
  have HR := Lib.hid hR
  rw [hR]
  clear hR
  go_enter Tryd.func37, Tryd.ntmps37
  go_wp2_with fail
  refine HTW.out.mono ?_
  rintro e w1 ⟨rfl, rfl⟩
  go_wp2_with fail
  refine (HCV.out w1).mono ?_
  rintro e w2 ⟨rfl, hb2, hc2⟩
  obtain ⟨gx, hgx⟩ : ∃ gx, w1.heap.size = gx := ⟨_, rfl⟩
  rw [hgx] at hb2 ⊢
  have HB2 := Lib.hid hb2; have HC2 := Lib.hid hc2
  clear hb2 hc2 hgx
  go_wp2_with fail
  refine (HCW.out w2).mono ?_
  rintro e w3 ⟨rfl, hb3, hc3⟩
  obtain ⟨gy, hgy⟩ : ∃ gy, w2.heap.size = gy := ⟨_, rfl⟩
  rw [hgy] at hb3 ⊢
  have HB3 := Lib.hid hb3; have HX3 := Lib.hid (hc3.blk HB2.out (fun x => x)); have HC3 := Lib.hid (HC2.out.trans hc3 (fun _ x => x.elim))
  clear hb3 hc3 hgy
  go_wp2_with fail
  go_loopg [39, 13, 14] (V.length + W.length) (fun gm kv xv yv wr => ∃ k gx gy : Nat, k ≤ V.length + W.length ∧ gm = V.length + W.length - k ∧ kv = .int .i64 k ∧ xv = .slice (some ⟨gx, 0, none⟩) V.length V.length ∧ yv = .slice (some ⟨gy, 0, none⟩) W.length W.length ∧
    Blk wr gx 3 (nv (agedF V t k)) ∧ Blk wr gy 3 (nv (agedF W u k)) ∧ Chg (fun _ => False) w1 wr ∧ sameF (ln V t) (ln W u) (V.length + W.length - k) k = R)
  case atStart => exact ⟨0, gx, gy, by omega, by omega, rfl, rfl, rfl, HX3.out, HB3.out, HC3.out, HR.out⟩
  case round =>
    clear HX3 HB3 HC3 HB2 HC2
    obtain ⟨k, gx, gy, hk, rfl, rfl, rfl, rfl, hx, hy, hc, hr⟩ := hrel
    have HX := Lib.hid hx; have HY := Lib.hid hy; have HC := Lib.hid hc; have HRR := Lib.hid hr
    clear hx hy hc hr
    by_cases hlt : k < V.length + W.length
    · have d0 : decide ((k : Int) < (V.length : Int) + (W.length : Int)) = true := by simp; omega
      have HS1 := Lib.hid (sum_any (agedF V t k) gx 0 V.length wr (nats_of_blk HX.out) (HEV.out k) (by rw [HLV.out]; omega))
      have HS2 := Lib.hid (sum_any (agedF W u k) gy 0 W.length wr (nats_of_blk HY.out) (HEW.out k) (by rw [HLW.out]; omega))
      rw [HLV.out, sum_ln HWV.out HT.out hl (by omega)] at HS1
      rw [HLW.out, sum_ln HWW.out HU.out hul (by omega)] at HS2
      obtain ⟨f, hf⟩ : ∃ f, V.length + W.length - k = f + 1 := ⟨V.length + W.length - k - 1, by omega⟩
      have HF := Lib.hid hf
      have HRN : Hid ((if ln V t k = ln W u k then sameF (ln V t) (ln W u) f (k + 1) else .tuple #[.int .i64 (k : Int), .int .i64 0]) = R) := Lib.hid (by rw [← HRR.out, hf]; rfl)
      clear hf
      have HA1 := Lib.hid (after_any V HWV.out (agedF V t k) b off cap gx 0 V.length wr (HV.out.chg HC.out (fun x => x)) (nats_of_blk HX.out) (HLV.out k) (HEV.out k))
      obtain ⟨p, hp⟩ : ∃ p, ln V t k = p := ⟨_, rfl⟩
      obtain ⟨q, hq⟩ : ∃ q, ln W u k = q := ⟨_, rfl⟩
      rw [hp] at HS1 HRN
      rw [hq] at HS2 HRN
      clear hp hq
      by_cases hpq : p = q
      · rw [if_pos hpq] at HRN
        subst hpq
        go_wp2_with fail
        refine HS1.out.mono ?_
        rintro e w4 ⟨rfl, rfl⟩
        go_wp2_with fail
        refine HS2.out.mono ?_
        rintro e w4 ⟨rfl, rfl⟩
        go_wp2_with fail
        refine HA1.out.mono ?_
        rintro e w5 ⟨rfl, hb5, hc5⟩
        obtain ⟨g5, hg5⟩ : ∃ g5, w4.heap.size = g5 := ⟨_, rfl⟩
        rw [hg5] at hb5 ⊢
        have HB5 := Lib.hid hb5; have HY5 := Lib.hid (hc5.blk HY.out (fun x => x)); have HC5 := Lib.hid (HC.out.trans hc5 (fun _ x => x.elim))
        clear hb5 hc5 hg5
        go_wp2_with fail
        refine (after_any W HWW.out (agedF W u k) b2 off2 cap2 gy 0 W.length w5 (HW.out.chg HC5.out (fun x => x)) (nats_of_blk HY5.out) (HLW.out k) (HEW.out k)).mono ?_
        rintro e w6 ⟨rfl, hb6, hc6⟩
        obtain ⟨g6, hg6⟩ : ∃ g6, w5.heap.size = g6 := ⟨_, rfl⟩
        rw [hg6] at hb6 ⊢
        have HB6 := Lib.hid hb6; have HX6 := Lib.hid (hc6.blk HB5.out (fun x => x)); have HC6 := Lib.hid (HC5.out.trans hc6 (fun _ x => x.elim))
        clear hb6 hc6 hg6
        go_wp2_with fail
        go_roundg (V.length + W.length - (k + 1))
        case measure => omega
        case rel => exact ⟨k + 1, g5, g6, by omega, rfl, by go_num, rfl, rfl, HX6.out, HB6.out, HC6.out, by rw [show V.length + W.length - (k + 1) = f by have := HF.out; omega]; exact HRN.out⟩
      · have hpq' : ¬ (p : Int) = (q : Int) := by omega
        rw [if_neg hpq] at HRN
        clear HA1
        go_wp2_with fail
        refine HS1.out.mono ?_
        rintro e w4 ⟨rfl, rfl⟩
        go_wp2_with fail
        refine HS2.out.mono ?_
        rintro e w4 ⟨rfl, rfl⟩
        go_wp2_with fail
        go_ret2
        exact ⟨by rw [← HRN.out]; rfl, HC.out⟩
    · obtain rfl : k = V.length + W.length := by omega
      have d0 : decide (((V.length + W.length : Nat) : Int) < (V.length : Int) + (W.length : Int)) = false := by simp
      have HRN : Hid (.tuple #[.int .i64 0, .int .i64 10] = R) := Lib.hid (by rw [← HRR.out, Nat.sub_self]; rfl)
      go_wp2_with fail
      go_ret2
      exact ⟨by rw [← HRN.out]; rfl, HC.out⟩
end Go.Proofs.YtilacamhjibneaaDoor

/- Same of the reference, walked. Its conditions are its premises. -/
namespace Go.Proofs.YtilacamhjibneaaDoor
open Go.RowKit

set_option maxRecDepth 100000 in
set_option maxHeartbeats 1000000 in
theorem rsame_ok (V : List (List Nat)) (hV : WF V) (t : List Nat) (ht : ∀ c ∈ t, c < V.length) (hl : t.length ≤ 30) (b off cap : Nat) (W : List (List Nat)) (hW : WF W) (u : List Nat) (hu : ∀ c ∈ u, c < W.length) (hul : u.length ≤ 30) (b2 off2 cap2 : Nat) (w : World) (hv : VAt w b off V) (hw : VAt w b2 off2 W) :
    Calls Tryd.prog 38 #[.slice (some ⟨b, off, none⟩) V.length cap, .string (str t), .slice (some ⟨b2, off2, none⟩) W.length cap2, .string (str u)] w fun e w' => e = .returned (sameF (ln V t) (ln W u) (V.length + W.length) 0) ∧ Chg (fun _ => False) w w' := by
  have hn6 := hV.le
  have hm6 := hW.le
  have HBO := Lib.hid (both_ok V hV t ht hl b off cap W hW u hu hul b2 off2 cap2 w hv hw)
  have HV := Lib.hid hv; have HW := Lib.hid hw; have HWV := Lib.hid hV; have HWW := Lib.hid hW; have HT := Lib.hid ht; have HU := Lib.hid hu
  obtain ⟨R, hR⟩ : ∃ R, sameF (ln V t) (ln W u) (V.length + W.length) 0 = R := ⟨_, rfl⟩
  have HR := Lib.hid hR
  rw [hR]
  obtain ⟨N, hN⟩ : ∃ N, V.length + W.length = N := ⟨_, rfl⟩
  have HN := Lib.hid hN
  have hNI : (V.length : Int) + (W.length : Int) = (N : Int) := by omega
  have hN12 : N ≤ 12 := by omega
  have HTV := Lib.hid (table_any V hV N (by omega) b off cap w hv)
  obtain ⟨st, hst⟩ : ∃ st, str t = st := ⟨_, rfl⟩
  obtain ⟨su, hsu⟩ : ∃ su, str u = su := ⟨_, rfl⟩
  have HST := Lib.hid hst; have HSU := Lib.hid hsu
  rw [hst, hsu] at HBO ⊢
  clear hv hw hV hW ht hu hR hN hst hsu
  go_enter Tryd.func38, Tryd.ntmps38
  go_wp2_with fail
  refine HBO.out.mono ?_
  rintro e w1 ⟨rfl, rfl⟩
  go_wp2_with fail
  refine HTV.out.mono ?_
  rintro e w2 ⟨⟨ga, ca, rfl, ha⟩, hc2⟩
  have HA := Lib.hid ha; have HC2 := Lib.hid hc2
  clear ha hc2
  go_wp2_with fail
  refine (table_any W HWW.out N (by omega) b2 off2 cap2 w2 (HW.out.chg HC2.out (fun x => x))).mono ?_
  rintro e w3 ⟨⟨gb, cb, rfl, hb⟩, hc3⟩
  have HB := Lib.hid hb; have HA3 := Lib.hid (HA.out.chg hc3); have HC3 := Lib.hid (HC2.out.trans hc3 (fun _ x => x.elim))
  clear hb hc3
  obtain ⟨M, hM⟩ : ∃ M, N + 1 = M := ⟨_, rfl⟩
  rw [hM]
  have hMN : N < M := by omega
  clear hM
  go_wp2_with fail
  go_loopg [14] N (fun gm kv wr => ∃ k q : Nat, k ≤ N ∧ gm = N - k ∧ kv = .int .i64 k ∧ sameF (ln V t) (ln W u) (N - k) k = R ∧ wr = w3.drewN q)
  case atStart => exact ⟨0, 0, by omega, by omega, rfl, by rw [← HN.out]; exact HR.out, rfl⟩
  case round =>
    obtain ⟨k, q, hk, rfl, rfl, hr, rfl⟩ := hrel
    have HRR := Lib.hid hr
    clear hr
    by_cases hlt : k < N
    · have d0 : decide (k < N) = true := by simpa using hlt
      have hkM : (k : Int) < (M : Int) := by omega
      obtain ⟨g1, c1, t1, t2⟩ := HA3.out k hk
      obtain ⟨g2, c2, u1, u2⟩ := HB.out k hk
      rw [Nat.zero_add] at t1 u1
      obtain ⟨wq, hwq⟩ : ∃ wq : World, wq = w3.drewN q := ⟨_, rfl⟩
      have HWQ := Lib.hid hwq
      have HCQ := Lib.hid (show Chg (fun _ => False) w3 wq by rw [hwq]; exact (Chg.refl _ w3).drewN q)
      have HL1 : Hid (∀ p, Calls Tryd.prog 74 #[.string st, .slice (some ⟨g1, 0, none⟩) V.length c1] (wq.drewN p) fun e w' => e = .returned (.int .u64 (ln V t k : Nat)) ∧ w' = wq.drewN p) := Lib.hid (fun p => by
        have h := long_any t (tab V k) V.length (by omega) HT.out (tab_len V k) (tab_le V k) (by omega) g1 c1 (wq.drewN p) ((t2.chg HCQ.out (fun x => x)).chg ((Chg.refl (fun _ => False) wq).drewN p) (fun x => x))
        rw [lng_ln HWV.out HT.out hl (by omega), HST.out] at h
        exact h)
      have HL2 : Hid (∀ p, Calls Tryd.prog 74 #[.string su, .slice (some ⟨g2, 0, none⟩) W.length c2] (wq.drewN p) fun e w' => e = .returned (.int .u64 (ln W u k : Nat)) ∧ w' = wq.drewN p) := Lib.hid (fun p => by
        have h := long_any u (tab W k) W.length (by omega) HU.out (tab_len W k) (tab_le W k) (by omega) g2 c2 (wq.drewN p) ((u2.chg HCQ.out (fun x => x)).chg ((Chg.refl (fun _ => False) wq).drewN p) (fun x => x))
        rw [lng_ln HWW.out HU.out hul (by omega), HSU.out] at h
        exact h)
      have t1' := HCQ.out.cell_some t1 (fun x => x)
      have u1' := HCQ.out.cell_some u1 (fun x => x)
      rw [← hwq]
      clear t1 u1 t2 u2 hwq
      obtain ⟨f, hf⟩ : ∃ f, N - k = f + 1 := ⟨N - k - 1, by omega⟩
      have HF := Lib.hid hf
      have HRN : Hid ((if ln V t k = ln W u k then sameF (ln V t) (ln W u) f (k + 1) else .tuple #[.int .i64 (k : Int), .int .i64 0]) = R) := Lib.hid (by rw [← HRR.out, hf]; rfl)
      clear hf
      obtain ⟨x, hx⟩ : ∃ x, ln V t k = x := ⟨_, rfl⟩
      obtain ⟨y, hy⟩ : ∃ y, ln W u k = y := ⟨_, rfl⟩
      rw [hx] at HL1 HRN
      rw [hy] at HL2 HRN
      clear hx hy
      by_cases hxy : x = y
      · rw [if_pos hxy] at HRN
        subst hxy
        go_wp2_with fail
        go_quiet ((first
          | (with_reducible refine Calls.quiet_of_same (HL1.out _))
          | (with_reducible refine Calls.quiet_of_same (HL2.out _))))
        go_wp2_with fail
        go_roundg (N - (k + 1))
        case measure => omega
        case rel => exact ⟨k + 1, q + nq, by omega, rfl, by go_num, by rw [show N - (k + 1) = f by have := HF.out; omega]; exact HRN.out, by rw [HWQ.out]; simp⟩
      · have hxy' : ¬ (x : Int) = (y : Int) := by omega
        rw [if_neg hxy] at HRN
        go_wp2_with fail
        go_quiet ((first
          | (with_reducible refine Calls.quiet_of_same (HL1.out _))
          | (with_reducible refine Calls.quiet_of_same (HL2.out _))))
        go_wp2_with fail
        go_ret2
        exact ⟨by rw [← HRN.out]; rfl, (HC3.out.trans HCQ.out (fun _ x => x.elim)).drewN _⟩
    · obtain rfl : k = N := by omega
      have HRN : Hid (.tuple #[.int .i64 0, .int .i64 10] = R) := Lib.hid (by rw [← HRR.out, Nat.sub_self]; rfl)
      go_wp2_with fail
      go_ret2
      exact ⟨by rw [← HRN.out]; rfl, HC3.out.drewN _⟩
end Go.Proofs.YtilacamhjibneaaDoor
