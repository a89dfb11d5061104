/- The small functions of the program's package turn and of the reference: what each returns. The conditions of each are its premises. -/
import Derived.Test.YtgamekcjjpjnnaaBase
set_option linter.unusedVariables false
namespace Go.Proofs.Ytgamekcjjpjnnaa
open Go.RowKit

theorem grow_alloc (w : World) (x : Ext) (o : Obj) : ∃ z, (w.grow x).alloc o = w.grow z :=
  World.grow_of_below ((World.grow_below w x).alloc (World.grow_below w x).size o)
theorem grow_alloc0 (w : World) (o : Obj) : ∃ z, w.alloc o = w.grow z :=
  World.grow_of_below ((Below.refl _ w).alloc (Nat.le_refl _) o)
theorem grow_alloc_drewN (w : World) (o : Obj) (n : Nat) : ∃ z, (w.alloc o).drewN n = w.grow z := by
  obtain ⟨z, hz⟩ := grow_alloc0 w o
  obtain ⟨y, hy⟩ := (w.alloc o).grow_drewN n
  rw [hz] at hy ⊢
  rw [hy]
  exact World.grow_grow _ _ _

theorem mod_plain (n t : Int) (ht : 1 ≤ t) : (n.tmod t + t) % t = n % t := by
  rw [Int.add_emod_right, Int.tmod_eq_emod]
  have e : ((t.natAbs : Int)) = t := by omega
  split
  · simp
  · rw [e, Int.sub_emod_right]; exact Int.emod_emod_of_dvd n (Int.dvd_refl t)

theorem mod_any (n t : Int) (w : World) (ht : 1 ≤ t) (ht2 : t ≤ 1000) (h0 : -1000000 ≤ n) (h1 : n ≤ 1000000) :
    Calls Try.prog 72 #[.int .i64 n, .int .i64 t] w fun e w' => e = .returned (.int .i64 (n % t)) ∧ w' = w := by
  have h2 : -t < n.tmod t := Int.lt_tmod_of_pos n (by omega)
  have h3 : n.tmod t < t := Int.tmod_lt_of_pos n (by omega)
  go_enter Try.func72, Try.ntmps72
  go_wp2
  go_ret
  exact ⟨ret_int (mod_plain n t ht), rfl⟩

theorem modulo_any (n t : Int) (b off : Nat) (w : World) (ht : 1 ≤ t) (ht2 : t ≤ 1000) (h0 : -1000000 ≤ n) (h1 : n ≤ 1000000)
   (hc : w.cell? ⟨b, off, none⟩ = some (.int .i64 t)) :
    Calls Try.prog 66 #[.pointer (some ⟨b, off, none⟩), .int .i64 n] w fun e w' => e = .returned (.int .i64 (n % t)) ∧ ∃ m, w' = w.drewN m := by
  have h2 : -t < n.tmod t := Int.lt_tmod_of_pos n (by omega)
  have h3 : n.tmod t < t := Int.tmod_lt_of_pos n (by omega)
  go_enter Try.func66, Try.ntmps66
  go_wp2
  go_quiet (fail)
  go_wp2
  go_ret
  exact ⟨ret_int (mod_plain n t ht), nq, rfl⟩

/-- ref.slack -/
theorem rslack_any (t f g lo hi x y : Int) (b off len cap : Nat) (w : World) (ht : 1 ≤ t) (ht2 : t ≤ 1000) (h0 : -1000 ≤ lo) (h1 : lo ≤ 1000)
    (hf0 : 0 ≤ f) (hg0 : 0 ≤ g) (hf : f < len) (hg : g < len) (hl : len ≤ 1000) (hx : 0 ≤ x ∧ x ≤ 1000) (hy : 0 ≤ y ∧ y ≤ 1000)
   (hcx : w.cell? ⟨b, off + f.toNat, none⟩ = some (.int .i64 x)) (hcy : w.cell? ⟨b, off + g.toNat, none⟩ = some (.int .i64 y)) :
    Calls Try.prog 63 #[.int .i64 t, .agg #[.int .i64 f, .int .i64 g, .int .i64 lo, .int .i64 hi], .slice (some ⟨b, off, none⟩) len cap] w fun e w' =>
      e = .returned (.int .i64 ((y - x - lo) % t)) ∧ ∃ x, w' = w.grow x := by
  have hb : b < w.heap.size := World.cell_lt hcx
  go_enter Try.func63, Try.ntmps63
  go_wp2_with fail
  go_quiet ((go_at_call 72; exact Calls.quiet_of_same (mod_any _ _ _ ht ht2 (by omega) (by omega))))
  go_wp2
  go_ret
  exact ⟨rfl, grow_alloc_drewN _ _ _⟩

/-- turn.slack -/
theorem slack_any (t f g lo hi x y : Int) (p po b off len cap : Nat) (w : World) (ht : 1 ≤ t) (ht2 : t ≤ 1000) (h0 : -1000 ≤ lo) (h1 : lo ≤ 1000)
    (hf0 : 0 ≤ f) (hg0 : 0 ≤ g) (hf : f < len) (hg : g < len) (hl : len ≤ 1000) (hx : 0 ≤ x ∧ x ≤ 1000) (hy : 0 ≤ y ∧ y ≤ 1000)
   (hcp : w.cell? ⟨p, po, none⟩ = some (.int .i64 t))
   (hcx : w.cell? ⟨b, off + f.toNat, none⟩ = some (.int .i64 x)) (hcy : w.cell? ⟨b, off + g.toNat, none⟩ = some (.int .i64 y)) :
    Calls Try.prog 64 #[.pointer (some ⟨p, po, none⟩), .agg #[.int .i64 f, .int .i64 g, .int .i64 lo, .int .i64 hi], .slice (some ⟨b, off, none⟩) len cap] w fun e w' =>
      e = .returned (.int .i64 ((y - x - lo) % t)) ∧ ∃ x, w' = w.grow x := by
  have hb : b < w.heap.size := World.cell_lt hcx
  have hp : p < w.heap.size := World.cell_lt hcp
  go_enter Try.func64, Try.ntmps64
  go_wp2_with fail
  go_quiet ((go_at_call 66; exact Calls.quiet_of (modulo_any _ _ _ _ _ ht ht2 (by omega) (by omega) (by go_simp))))
  go_wp2
  go_ret
  exact ⟨rfl, grow_alloc_drewN _ _ _⟩

theorem refuses_any (lo hi t : Int) (b off : Nat) (w : World) (ht : 1 ≤ t) (ht2 : t ≤ 1000) (h0 : -100000 ≤ lo) (h1 : lo ≤ 100000) (h2 : -100000 ≤ hi) (h3 : hi ≤ 100000)
   (hc : w.cell? ⟨b, off, none⟩ = some (.int .i64 t)) :
    Calls Try.prog 45 #[.pointer (some ⟨b, off, none⟩), .int .i64 lo, .int .i64 hi] w fun e w' => e = .returned (.bool (decide (hi < lo + -lo % t))) ∧ ∃ m, w' = w.drewN m := by
  have h4 := Int.emod_nonneg (-lo) (show t ≠ 0 by omega)
  have h5 := Int.emod_lt_of_pos (-lo) (show 0 < t by omega)
  go_enter Try.func45, Try.ntmps45
  go_wp2_with fail
  refine (modulo_any (-lo) t b off w ht ht2 (by omega) (by omega) hc).mono ?_
  rintro e w' ⟨rfl, m, rfl⟩
  go_wp2
  go_ret
  exact ⟨rfl, m, rfl⟩

theorem rrefuses_any (lo hi t : Int) (w : World) (ht : 1 ≤ t) (ht2 : t ≤ 1000) (h0 : -100000 ≤ lo) (h1 : lo ≤ 100000) (h2 : -100000 ≤ hi) (h3 : hi ≤ 100000) :
    Calls Try.prog 59 #[.int .i64 t, .int .i64 lo, .int .i64 hi] w fun e w' => e = .returned (.bool (decide (hi - lo < -lo % t))) ∧ w' = w := by
  go_enter Try.func59, Try.ntmps59
  go_wp2_with fail
  refine (mod_any (-lo) t w ht ht2 (by omega) (by omega)).mono ?_
  rintro e w' ⟨rfl, rfl⟩
  go_wp2
  go_ret
  exact ⟨rfl, rfl⟩

theorem ends_any (f g lo hi : Int) (al : Bool) (w : World) :
    Calls Try.prog 46 #[.agg #[.int .i64 f, .int .i64 g, .int .i64 lo, .int .i64 hi, .bool al]] w fun e w' =>
      e = .returned (.tuple #[.int .i64 (if al then f else g), .int .i64 (if al then g else f)]) ∧ ∃ x, w' = w.grow x := by
  cases al
  · go_enter Try.func46, Try.ntmps46
    go_wp2
    go_quiet (fail)
    go_wp2
    go_ret2
    exact ⟨rfl, grow_alloc_drewN _ _ _⟩
  · go_enter Try.func46, Try.ntmps46
    go_wp2
    go_quiet (fail)
    go_wp2
    go_ret2
    exact ⟨rfl, grow_alloc_drewN _ _ _⟩

theorem sums_any (f g lo hi : Int) (al : Bool) (w : World) (h0 : -100000 ≤ lo) (h1 : lo ≤ 100000) (h2 : -100000 ≤ hi) (h3 : hi ≤ 100000) :
    Calls Try.prog 47 #[.agg #[.int .i64 f, .int .i64 g, .int .i64 lo, .int .i64 hi, .bool al]] w fun e w' =>
      e = .returned (.tuple #[.int .i64 (if al then lo else -hi), .int .i64 (if al then hi else -lo)]) ∧ ∃ x, w' = w.grow x := by
  cases al
  · go_enter Try.func47, Try.ntmps47
    go_wp2
    go_quiet (fail)
    go_wp2
    go_ret2
    exact ⟨rfl, grow_alloc_drewN _ _ _⟩
  · go_enter Try.func47, Try.ntmps47
    go_wp2
    go_quiet (fail)
    go_wp2
    go_ret2
    exact ⟨rfl, grow_alloc_drewN _ _ _⟩
end Go.Proofs.Ytgamekcjjpjnnaa
