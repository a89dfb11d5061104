/- How long each part is after so many years: the table; far and plus. Their conditions are their premises. -/
import Derived.Test.YtilacamhjibneaaDoorV30
set_option linter.unusedVariables false
namespace Go.Proofs.YtilacamhjibneaaDoor
open Go.RowKit

def M63 : Nat := 9223372036854775808
theorem far_any (a b : Nat) (ha : a ≤ M63) (hb : b ≤ M63) (w : World) : Calls Tryd.prog 81 #[.int .u64 (a : Int), .int .u64 (b : Int)] w fun e w' => e = .returned (.int .u64 ((min (a + b) M63 : Nat) : Int)) ∧ w' = w := by
  unfold M63 at ha hb
  have h1 : IntKind.u64.wrap (9223372036854775808 - (b : Int)) = 9223372036854775808 - (b : Int) := by simp [IntKind.wrap, IntKind.bits, IntKind.signed]; omega
  by_cases h : 9223372036854775808 < a + b
  · have hd : decide (9223372036854775808 - (b : Int) < (a : Int)) = true := by simp; omega
    go_enter Tryd.func81, Tryd.ntmps81
    go_wp2_with fail
    all_goals
      go_ret
      exact ⟨ret_int (by unfold M63; omega), rfl⟩
  · have hd : decide (9223372036854775808 - (b : Int) < (a : Int)) = false := by simp; omega
    have h2 : IntKind.u64.wrap ((a : Int) + (b : Int)) = (a : Int) + (b : Int) := by simp [IntKind.wrap, IntKind.bits, IntKind.signed]; omega
    go_enter Tryd.func81, Tryd.ntmps81
    go_wp2_with fail
    all_goals
      go_ret
      exact ⟨ret_int (by unfold M63; omega), rfl⟩
theorem rplus_any (a b : Nat) (ha : a ≤ M63) (hb : b ≤ M63) (w : World) : Calls Tryd.prog 98 #[.int .u64 (a : Int), .int .u64 (b : Int)] w fun e w' => e = .returned (.int .u64 ((min (a + b) M63 : Nat) : Int)) ∧ w' = w := by
  unfold M63 at ha hb
  have h1 : IntKind.u64.wrap (9223372036854775808 - (b : Int)) = 9223372036854775808 - (b : Int) := by simp [IntKind.wrap, IntKind.bits, IntKind.signed]; omega
  by_cases h : 9223372036854775808 ≤ a + b
  · have hd : decide (9223372036854775808 - (b : Int) ≤ (a : Int)) = true := by simp; omega
    go_enter Tryd.func98, Tryd.ntmps98
    go_wp2_with fail
    all_goals
      go_ret
      exact ⟨ret_int (by unfold M63; omega), rfl⟩
  · have hd : decide (9223372036854775808 - (b : Int) ≤ (a : Int)) = false := by simp; omega
    have h2 : IntKind.u64.wrap ((a : Int) + (b : Int)) = (a : Int) + (b : Int) := by simp [IntKind.wrap, IntKind.bits, IntKind.signed]; omega
    go_enter Tryd.func98, Tryd.ntmps98
    go_wp2_with fail
    all_goals
      go_ret
      exact ⟨ret_int (by unfold M63; omega), rfl⟩

/-- The first k letters' lengths, added. -/
def tbP (s : List Nat) (R : List Nat) : Nat → Nat
  | 0 => 0
  | k + 1 => min (tbP s R k + at0 R (at0 s k)) M63
def tab (V : List (List Nat)) : Nat → List Nat
  | 0 => List.replicate V.length 1
  | y + 1 => (List.range V.length).map fun i => tbP (part V i) (tab V y) (part V i).length
def lngV (s : List Nat) (R : List Nat) : Nat := tbP s R s.length
theorem tbP_le (s R : List Nat) : ∀ k, tbP s R k ≤ M63
  | 0 => Nat.zero_le _
  | k + 1 => Nat.min_le_right _ _
theorem tab_len (V : List (List Nat)) : ∀ y, (tab V y).length = V.length
  | 0 => by simp [tab]
  | y + 1 => by simp [tab]
theorem tab_le (V : List (List Nat)) (y c : Nat) : at0 (tab V y) c ≤ M63 := by
  unfold at0
  cases h : (tab V y)[c]? with
  | none => simp
  | some x =>
    have hx := List.mem_of_getElem? h
    cases y with
    | zero =>
      have := List.eq_of_mem_replicate hx
      subst this
      decide
    | succ y =>
      obtain ⟨i, _, rfl⟩ := List.mem_map.1 hx
      exact tbP_le _ _ _
theorem tab_zero {V : List (List Nat)} {c : Nat} (h : c < V.length) : at0 (tab V 0) c = 1 := by
  unfold at0 tab
  rw [List.getElem?_replicate, if_pos h]
  rfl
theorem tab_succ {V : List (List Nat)} {y c : Nat} (h : c < V.length) : at0 (tab V (y + 1)) c = lngV (part V c) (tab V y) := by
  unfold at0 lngV
  rw [tab, List.getElem?_map, List.getElem?_range h]
  rfl

def uv (l : List Nat) : List Value := l.map fun (x : Nat) => .int .u64 (x : Int)
theorem uv_at {N : List Nat} {i : Nat} (h : i < N.length) : (uv N)[i]? = some (.int .u64 (at0 N i : Nat)) := by
  unfold uv at0
  rw [List.getElem?_map, List.getElem?_eq_getElem h]
  rfl
theorem uv_set (N : List Nat) (i v : Nat) : uv (N.set i v) = (uv N).set i (.int .u64 (v : Int)) := by
  unfold uv
  rw [List.map_set]
/-- A row's cells. -/
def RowAt (w : World) (g : Nat) (R : List Nat) : Prop := ∀ j, j < R.length → w.cell? ⟨g, j, none⟩ = some (.int .u64 (at0 R j : Nat))
theorem RowAt.chg {S : Nat → Prop} {w w' : World} {g : Nat} {R : List Nat} (h : RowAt w g R) (hc : Chg S w w') (hn : ¬ S g) : RowAt w' g R := fun j hj => hc.cell_some (h j hj) hn
theorem row_of_blk {w : World} {g e : Nat} {R : List Nat} (h : Blk w g e (uv R)) : RowAt w g R := fun j hj => h.cell_some (uv_at hj)
/-- The table's cells, up to the year Y. -/
def TabAt (w : World) (tb off : Nat) (V : List (List Nat)) (Y : Nat) : Prop := ∀ y, y ≤ Y → ∃ g c, w.cell? ⟨tb, off + y, none⟩ = some (.slice (some ⟨g, 0, none⟩) V.length c) ∧ RowAt w g (tab V y)
theorem TabAt.chg {w w' : World} {tb off : Nat} {V : List (List Nat)} {Y : Nat} (h : TabAt w tb off V Y) (hc : Chg (fun _ => False) w w') : TabAt w' tb off V Y := fun y hy => by
  obtain ⟨g, c, h1, h2⟩ := h y hy
  exact ⟨g, c, hc.cell_some h1 (fun x => x), h2.chg hc (fun x => x)⟩
theorem info88 : (Tryd.prog.info? 88).map (fun i => (i.zero, i.size, i.bytes)) = some (some (.int .u64 0), 1, 8) := by kernel_rfl
theorem info90 : (Tryd.prog.info? 90).map (fun i => (i.zero, i.size, i.bytes)) = some (some (.slice none 0 0), 1, 24) := by kernel_rfl
theorem make_row (N : Nat) (hN : N ≤ 2000) (w : World) : (Instr.makeSlice 90 (.int .i64 N) (.int .i64 N)).run Tryd.prog w = .ok (.slice (some ⟨w.heap.size, 0, none⟩) N N) (w.alloc (.cells (Array.replicate N (.int .u64 0)) 88)) := by
  obtain ⟨i0, hi0, hz0, hz1, hz2⟩ := info_parts info88
  have := run_make (P := Tryd.prog) w 90 88 i0 _ Tryd.underlying90 hi0 hz0 .i64 .i64 N N (by omega) (by omega) (by rw [hz2]; omega) (by omega)
  rw [this, hz1, Nat.mul_one, show (Value.int .u64 0).cells = #[Value.int .u64 0] from rfl, madeCells_one]
  rfl
theorem made_row (N : Nat) (w : World) : Blk (w.alloc (.cells (Array.replicate N (.int .u64 0)) 88)) w.heap.size 88 (uv (List.replicate N 0)) := by
  have := Blk.new w (Array.replicate N (.int .u64 0)) 88
  simpa [uv] using this

set_option maxRecDepth 100000 in
theorem long_any (s R : List Nat) (n : Nat) (hn : n ≤ 50) (hs : ∀ c ∈ s, c < n) (hR : R.length = n) (hRl : ∀ c, at0 R c ≤ M63) (hsl : s.length ≤ 200000) (g c : Nat) (w : World) (hr : RowAt w g R) :
    Calls Tryd.prog 74 #[.string (str s), .slice (some ⟨g, 0, none⟩) n c] w fun e w' => e = .returned (.int .u64 (lngV s R : Nat)) ∧ w' = w := by
  have HS := Lib.hid hs; have HR := Lib.hid hr; have HRL := Lib.hid hR
  have HL := Lib.hid hRl
  have hsz := str_size s
  clear hs hr hR hRl
  go_enter Tryd.func74, Tryd.ntmps74
  go_wp2_with fail
  go_loopg [6, 5] s.length (fun gm kv sv wr => ∃ k : Nat, k ≤ s.length ∧ gm = s.length - k ∧ kv = .int .i64 k ∧ sv = .int .u64 (tbP s R k : Nat) ∧ wr = w)
  case atStart => exact ⟨0, by omega, by omega, rfl, rfl, rfl⟩
  case round =>
    obtain ⟨k, hk, rfl, rfl, rfl, rfl⟩ := hrel
    by_cases hlt : k < s.length
    · have d0 : decide (k < s.length) = true := by simpa using hlt
      have hcn := HS.out _ (List.getElem_mem hlt)
      have hidx := index_chr hlt (by omega)
      have hu8 := u8_chr s[k] (by omega)
      have r1 := HR.out s[k] (by rw [HRL.out]; exact hcn)
      have HX := Lib.hid (show tbP s R (k + 1) = min (tbP s R k + at0 R s[k]) M63 by rw [tbP, at0_lt_of hlt])
      have HP := Lib.hid (rplus_any (tbP s R k) (at0 R s[k]) (tbP_le s R k) (HL.out _) wr)
      obtain ⟨d, hd⟩ : ∃ d, s[k] = d := ⟨_, rfl⟩
      rw [hd] at hcn hu8 r1 HX HP
      simp only [hd] at hidx
      obtain ⟨D, hD⟩ : ∃ D, 97 + d = D := ⟨_, rfl⟩
      rw [hD] at hu8
      simp only [hD] at hidx
      obtain ⟨x, hx⟩ : ∃ x, at0 R d = x := ⟨_, rfl⟩
      obtain ⟨y, hy⟩ : ∃ y, tbP s R k = y := ⟨_, rfl⟩
      rw [hx] at r1 HX HP
      rw [hy] at HX HP ⊢
      clear hd hD hx hy
      have hdi : (d : Int) < (n : Int) := by omega
      go_wp2_with fail
      refine HP.out.mono ?_
      rintro e w1 ⟨rfl, rfl⟩
      go_wp2_with fail
      go_roundg (s.length - (k + 1))
      case measure => omega
      case rel => exact ⟨k + 1, by omega, rfl, by go_num, by rw [HX.out], rfl⟩
    · obtain rfl : k = s.length := by omega
      go_wp2_with fail
      go_ret
      exact ⟨rfl, rfl⟩
end Go.Proofs.YtilacamhjibneaaDoor
