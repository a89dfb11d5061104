/- turn.apart. Its conditions are its premises. -/
import Derived.Test.YtmmpdfcnenljhaaT2
set_option linter.unusedVariables false
namespace Go.Proofs.Ytmmpdfcnenljhaa.Turn
open Go.RowKit
def hset (n : Nat) : Value := .int .u32 (n : Int)

/-- The world in which turn.apart works. -/
structure Mat (w : World) (M : List Nat) (wr : World) : Prop where
  below : Below w.heap.size w wr
  out : Blk wr (w.heap.size + 1) 135 (M.map hset)
  res : Blk wr w.heap.size 135 (List.replicate 36 (hset 0))

theorem Mat.cell {w wr : World} {M : List Nat} (h : Mat w M wr) {i j : Nat} (hi : i < 6) (hj : j < 6) (hM : M.length = 36) :
    wr.cell? ⟨w.heap.size + 1, i * 6 + j, none⟩ = some (.int .u32 (at6 M i j : Nat)) :=
  h.out.cell_some (by rw [List.getElem?_map, at6_get hi hj hM]; rfl)

theorem Mat.store {w wr : World} {M : List Nat} (h : Mat w M wr) (k v : Nat) : Mat w (M.set k v) (wr.setCell ⟨w.heap.size + 1, k, none⟩ (.int .u32 (v : Int))) :=
  ⟨h.below.setCell (by simp) _, by have := h.out.set k (hset v); rwa [← List.map_set] at this, h.res.setOther (by simp) _⟩

theorem Mat.drewN {w wr : World} {M : List Nat} (h : Mat w M wr) (n : Nat) : Mat w M (wr.drewN n) := ⟨h.below.drewN n, h.out, h.res⟩

theorem Mat.drew {w wr : World} {M : List Nat} (h : Mat w M wr) : Mat w M wr.drew := ⟨h.below.drew, h.out, h.res⟩

theorem Mat.alloc {w wr : World} {M : List Nat} (h : Mat w M wr) (o : Obj) : Mat w M (wr.alloc o) := ⟨h.below.alloc h.below.size o, h.out.alloc o, h.res.alloc o⟩

theorem Mat.lt {w wr : World} {M : List Nat} (h : Mat w M wr) : w.heap.size + 1 < wr.heap.size := h.out.lt

theorem pow_int {T : Nat} (hT : T ≤ 24) : ((2 : Int) ^ T - 1) % 4294967296 = ((2 ^ T - 1 : Nat) : Int) := by
  have hp := pow_small hT
  have h0 : 0 < 2 ^ T := Nat.two_pow_pos T
  have e : ((2 ^ T - 1 : Nat) : Int) = (2 : Int) ^ T - 1 := by rw [Int.natCast_sub (by omega)]; simp
  have : ((2 ^ T : Nat) : Int) = (2 : Int) ^ T := by simp
  rw [e]; omega

theorem turned_any' (T s : Nat) (d z : Int) (b : Nat) (w : World) (ht : 1 ≤ T) (ht2 : T ≤ 24) (h0 : -100000 ≤ d) (h1 : d ≤ 100000) (hs : s < 33554432) (hz : z = (s : Int))
   (hc : w.cell? ⟨b, 0, none⟩ = some (.int .i64 T)) :
    Calls Try.prog 96 #[.pointer (some ⟨b, 0, none⟩), .int .u32 z, .int .i64 d] w fun e w' => e = .returned (.int .u32 (trn T s (d % (T : Int)).toNat : Nat)) ∧ ∃ m, w' = w.drewN m := by
  subst hz
  exact turned_any T s d b w ht ht2 h0 h1 hs hc

def Less (M M' : List Nat) (ch : Bool) : Prop := M'.sum ≤ M.sum ∧ (ch = true → M'.sum < M.sum)

theorem Less.lt {M M' : List Nat} {ch : Bool} (h : Less M M' ch) : M'.sum + (if ch = true then 1 else 0) < M.sum + (if true = true then 1 else 0) := by
  cases ch
  · have := h.1; simp; omega
  · have := h.2 rfl; simp; omega

theorem Less.step {M M' : List Nat} {ch : Bool} (h : Less M M' ch) {k v x : Nat} (hk : M'[k]? = some x) (hv : v < x) : Less M (M'.set k v) true := by
  have h1 := sum_set hk hv
  have h2 := h.1
  exact ⟨by omega, fun _ => by omega⟩

theorem and_bit_int {a c : Nat} (ha : a < 4294967296) (hc : c < 24) : bits .and .u32 (a : Int) ((2 : Int) ^ c % 4294967296) = ((a &&& 2 ^ c : Nat) : Int) := by
  have hp := pow_small (t := c) (by omega)
  have h0 : 0 < 2 ^ c := Nat.two_pow_pos c
  have e : (2 : Int) ^ c % 4294967296 = ((2 ^ c : Nat) : Int) := by
    have : ((2 ^ c : Nat) : Int) = (2 : Int) ^ c := by simp
    omega
  rw [e, u32_and_nat _ _ ha (by omega)]

theorem and_bit_ne {a c : Nat} (h : a.testBit c = true) : (((a &&& 2 ^ c : Nat) : Int) != 0) = true := by
  rw [bne_iff_ne]
  intro h0
  have h1 : a &&& 2 ^ c = 0 := by omega
  have h2 : (a &&& 2 ^ c).testBit c = true := by simp [Nat.testBit_and, h, Nat.testBit_two_pow_self]
  rw [h1] at h2
  simp at h2

theorem and_bit_eq {a c : Nat} (h : a.testBit c = false) : (((a &&& 2 ^ c : Nat) : Int) != 0) = false := by
  have : a &&& 2 ^ c = 0 := by
    apply Nat.eq_of_testBit_eq
    intro i
    by_cases hi : c = i
    · subst hi; simp [Nat.testBit_and, h]
    · simp [Nat.testBit_and, Nat.testBit_two_pow_of_ne hi]
  rw [this]
  rfl

def ApartPost (T N : Nat) (l : List Sp) (w : World) (e : Ending) (w' : World) : Prop :=
  ∃ M, ApartOk T N l M ∧ e = .returned (.agg (M.map hset).toArray) ∧ ∃ x, w' = w.grow x

set_option maxRecDepth 100000 in
set_option maxHeartbeats 2000000 in
theorem apart_any (T N : Nat) (l : List Sp) (a : Option Addr) (cap : Nat) (w : World) (p b off : Nat) (hs : SpansAt w b off l) (ha : l = [] ∨ a = some ⟨b, off, none⟩)
    (hv : Valid T N l) (hp : PlanAt w p T N (.slice a l.length cap)) :
    Calls Try.prog 93 #[.pointer (some ⟨p, 0, none⟩)] w (ApartPost T N l w) := by
  obtain ⟨p0, p1, p2⟩ := hp
  have hpl : p < w.heap.size := World.cell_lt p0
  obtain ⟨t1, t2, n1, n2, hl, hok⟩ := hv
  have k1 : (24 : Int) ≥ T := t2
  have hpw := pow_int (T := T) (by omega)
  go_enter Try.func93, Try.ntmps93
  go_wp2
  go_loopg [18] N (fun g i wr => ∃ r M, r ≤ N ∧ g = N - r ∧ i = .int .i64 (r : Nat) ∧ Mat w M wr ∧ InitM T N M r 0)
  case atStart =>
    refine ⟨0, List.replicate 36 0, by omega, rfl, rfl, ⟨((Below.refl _ w).alloc (by simp) _).alloc (by simp) _, ?_, ?_⟩, ⟨by simp, fun x hx => by rw [List.eq_of_mem_replicate hx]; exact Nat.two_pow_pos T⟩, fun i j _ _ h => absurd h (by omega)⟩
    · have := Blk.new (w.alloc (.cells #[hset 0, hset 0, hset 0, hset 0, hset 0, hset 0, hset 0, hset 0, hset 0, hset 0, hset 0, hset 0, hset 0, hset 0, hset 0, hset 0, hset 0, hset 0, hset 0, hset 0, hset 0, hset 0, hset 0, hset 0, hset 0, hset 0, hset 0, hset 0, hset 0, hset 0, hset 0, hset 0, hset 0, hset 0, hset 0, hset 0] 135)) #[hset 0, hset 0, hset 0, hset 0, hset 0, hset 0, hset 0, hset 0, hset 0, hset 0, hset 0, hset 0, hset 0, hset 0, hset 0, hset 0, hset 0, hset 0, hset 0, hset 0, hset 0, hset 0, hset 0, hset 0, hset 0, hset 0, hset 0, hset 0, hset 0, hset 0, hset 0, hset 0, hset 0, hset 0, hset 0, hset 0] 135
      simp only [World.size_alloc] at this
      exact this
    · exact (Blk.new w #[hset 0, hset 0, hset 0, hset 0, hset 0, hset 0, hset 0, hset 0, hset 0, hset 0, hset 0, hset 0, hset 0, hset 0, hset 0, hset 0, hset 0, hset 0, hset 0, hset 0, hset 0, hset 0, hset 0, hset 0, hset 0, hset 0, hset 0, hset 0, hset 0, hset 0, hset 0, hset 0, hset 0, hset 0, hset 0, hset 0] 135).alloc _
  case round =>
    obtain ⟨r, M, hr, rfl, rfl, hm, hi⟩ := hrel
    have q0 := (hm.below.cell (p := ⟨p, 0, none⟩) hpl).trans p0
    have q1 := (hm.below.cell (p := ⟨p, 1, none⟩) hpl).trans p1
    have q2 := (hm.below.cell (p := ⟨p, 2, none⟩) hpl).trans p2
    by_cases hlt : r < N
    · go_wp2
      obtain ⟨wo, rfl⟩ : ∃ wo : World, wo = wr := ⟨_, rfl⟩
      have hB := Lib.hid hi; clear hi
      go_loopg [25] N (fun g i wr => ∃ c M, c ≤ N ∧ g = N - c ∧ i = .int .i64 (c : Nat) ∧ Mat w M wr ∧ InitM T N M r c)
      case atStart => exact ⟨0, M, by omega, rfl, rfl, hm, hB.out⟩
      case round =>
        clear q0 q1 q2
        obtain ⟨c, M', hc, rfl, rfl, hm', hi'⟩ := hrel
        have q0 := (hm'.below.cell (p := ⟨p, 0, none⟩) hpl).trans p0
        have q1 := (hm'.below.cell (p := ⟨p, 1, none⟩) hpl).trans p1
        have q2 := (hm'.below.cell (p := ⟨p, 2, none⟩) hpl).trans p2
        by_cases hlt2 : c < N
        · have hx := hm'.cell (i := r) (j := c) (by omega) (by omega) hi'.1.1
          have hf := hm'.out.free (r * 6 + c)
          have hi2 := Lib.hid hi'; clear hi'
          go_wp2
          go_region
          have hm2 := (hm'.store (r * 6 + c) (2 ^ T - 1)).drew
          generalize hg : (wr.setCell { block := w.heap.size + 1, off := r * 6 + c } (Value.int IntKind.u32 ((2 ^ T - 1 : Nat) : Int))).drew = wr2 at hm2 ⊢
          clear hg
          by_cases hrc : r = c
          · subst hrc
            have hx2 := hm2.cell (i := r) (j := r) (by omega) (by omega) (by simp [hi2.out.1.1])
            have hf2 := hm2.out.free (r * 6 + r)
            have hm3 := hm2.store (r * 6 + r) 1
            go_wp2
            go_roundg (N - (r + 1))
            case measure => omega
            case rel => exact ⟨r + 1, _, by omega, rfl, by go_num, hm3, hi2.out.eq (by omega) hlt (by omega)⟩
          · have hne : ((r : Int) == (c : Int)) = false := by simp; omega
            go_wp2
            go_roundg (N - (c + 1))
            case measure => omega
            case rel => exact ⟨c + 1, _, by omega, rfl, by go_num, hm2, hi2.out.ne (by omega) hlt hlt2 hrc⟩
        · go_wp2
          obtain rfl : c = N := by omega
          go_roundg (c - (r + 1))
          case measure => omega
          case rel => exact ⟨r + 1, M', by omega, rfl, by go_num, hm', hi'.next⟩
    · obtain rfl : r = N := by omega
      have hS : SpanM T r l M 0 := .start hi (by omega)
      go_wp2
      clear q0 q1 q2 hpw
      go_loopg [52] l.length (fun g i wr => ∃ k M, k ≤ l.length ∧ g = l.length - k ∧ i = .int .i64 (k : Nat) ∧ Mat w M wr ∧ SpanM T r l M k)
      case atStart => exact ⟨0, M, by omega, by omega, rfl, hm, hS⟩
      case round =>
        obtain ⟨k, M', hk, rfl, rfl, hm', hS'⟩ := hrel
        have q0 := (hm'.below.cell (p := ⟨p, 0, none⟩) hpl).trans p0
        have q1 := (hm'.below.cell (p := ⟨p, 1, none⟩) hpl).trans p1
        by_cases hlk : k < l.length
        · have hne : a = some ⟨b, off, none⟩ := ha.resolve_left (by intro h; simp [h] at hlk)
          subst hne
          obtain ⟨c0, c1, c2, c3⟩ := hs k hlk
          have hb := World.cell_lt c0
          have g0 := (hm'.below.cell hb).trans c0
          have g1 := (hm'.below.cell (p := ⟨b, off + k * 4 + 1, none⟩) hb).trans c1
          have g2 := (hm'.below.cell (p := ⟨b, off + k * 4 + 2, none⟩) hb).trans c2
          have g3 := (hm'.below.cell (p := ⟨b, off + k * 4 + 3, none⟩) hb).trans c3
          clear c0 c1 c2 c3
          obtain ⟨o1, o2, o3, o4, o5, o6, o7, o8, o9⟩ := hok _ (List.getElem_mem hlk)
          have hstep := Lib.hid (hS'.step hlk (by omega) (by omega) (by omega) hok)
          have hsm := hS'.small
          generalize hsp : l[k] = s at *
          obtain ⟨f, g, lo, hi'⟩ := s
          dsimp only at *
          have hfN : f.toNat < 6 := by omega
          have hgN : g.toNat < 6 := by omega
          have hx := hm'.cell hfN hgN hsm.1
          have hlt := hm'.lt
          have hplr : p < wr.heap.size := by omega
          clear hsp
          have hmk : (2 ^ (hi' - lo + 1).toNat - 1) < 33554432 := by
            have h3 : 2 ^ (hi' - lo + 1).toNat ≤ 2 ^ 24 := Nat.pow_le_pow_right (by omega) (by omega)
            omega
          have hmi := pow_int (T := (hi' - lo + 1).toNat) (by omega)
          have hlo := Int.emod_nonneg lo (show (T : Int) ≠ 0 by omega)
          have hp := pow_small (t := T) (by omega)
          have hand := u32_and_nat (at6 M' f.toNat g.toNat) (trn T (2 ^ (hi' - lo + 1).toNat - 1) (lo % (T : Int)).toNat) (by have := hsm.at hfN hgN; omega) (by have := trn_lt (s := 2 ^ (hi' - lo + 1).toNat - 1) (k := (lo % (T : Int)).toNat) (show T ≤ 24 by omega); omega)
          go_wp2
          refine wp_region_drewN_tail 22 (by kernel_rfl) (by kernel_rfl) ?_
          simp only [List.take_succ_cons, List.take_zero, List.drop_succ_cons, List.drop_zero]
          repeat (go_big_quiet_step ((go_at_call 96; exact Calls.quiet_of (turned_any' T (2 ^ (hi' - lo + 1).toNat - 1) _ _ _ _ (by omega) (by omega) (by omega) (by omega) hmk (by omega) (by go_simp)))))
          refine wpQuiet_nil ?_
          rintro _ ⟨nq, rfl⟩
          have hf := (((hm'.alloc (Obj.cells #[Value.int IntKind.i64 f, Value.int IntKind.i64 g, Value.int IntKind.i64 lo, Value.int IntKind.i64 hi'] 59)).drewN nq).out.free (f.toNat * 6 + g.toNat))
          go_wp2
          have hm2 := ((hm'.alloc (Obj.cells #[Value.int IntKind.i64 f, Value.int IntKind.i64 g, Value.int IntKind.i64 lo, Value.int IntKind.i64 hi'] 59)).drewN nq).store (f.toNat * 6 + g.toNat) (at6 M' f.toNat g.toNat &&& trn T (2 ^ (hi' - lo + 1).toNat - 1) (lo % (T : Int)).toNat)
          have hz : ∀ i, i < 4 → (((wr.alloc (Obj.cells #[Value.int IntKind.i64 f, Value.int IntKind.i64 g, Value.int IntKind.i64 lo, Value.int IntKind.i64 hi'] 59)).drewN nq).setCell { block := w.heap.size + 1, off := f.toNat * 6 + g.toNat } (Value.int IntKind.u32 ((at6 M' f.toNat g.toNat &&& trn T (2 ^ (hi' - lo + 1).toNat - 1) (lo % (T : Int)).toNat : Nat) : Int))).cell? ⟨wr.heap.size, i, none⟩ = #[Value.int IntKind.i64 f, Value.int IntKind.i64 g, Value.int IntKind.i64 lo, Value.int IntKind.i64 hi'][i]? := fun i _ => by
            have hB := (Blk.new wr #[Value.int IntKind.i64 f, Value.int IntKind.i64 g, Value.int IntKind.i64 lo, Value.int IntKind.i64 hi'] 59).drewN nq
            exact ((hB.setOther (a := { block := w.heap.size + 1, off := f.toNat * 6 + g.toNat }) (by simp; omega) _).cell i).trans (by simp)
          have hsm2 : Small T (fwdM T M' ⟨f, g, lo, hi'⟩) := hsm.set _ (Nat.and_lt_two_pow _ (trn_lt (by omega)))
          generalize hW : ((wr.alloc (Obj.cells #[Value.int IntKind.i64 f, Value.int IntKind.i64 g, Value.int IntKind.i64 lo, Value.int IntKind.i64 hi'] 59)).drewN nq).setCell { block := w.heap.size + 1, off := f.toNat * 6 + g.toNat } (Value.int IntKind.u32 ((at6 M' f.toNat g.toNat &&& trn T (2 ^ (hi' - lo + 1).toNat - 1) (lo % (T : Int)).toNat : Nat) : Int)) = W2 at hm2 hz ⊢
          clear hW
          have z0 := hz 0 (by omega)
          have z1 := hz 1 (by omega)
          have z2 := hz 2 (by omega)
          have z3 := hz 3 (by omega)
          simp only [List.getElem?_toArray, List.getElem?_cons_zero, List.getElem?_cons_succ] at z0 z1 z2 z3
          change Mat w (fwdM T M' ⟨f, g, lo, hi'⟩) W2 at hm2
          have q02 := (hm2.below.cell (p := ⟨p, 0, none⟩) hpl).trans p0
          have hx2 := hm2.cell hgN hfN hsm2.1
          have hlt2 := hm2.lt
          have hhi := Int.emod_nonneg (-hi') (show (T : Int) ≠ 0 by omega)
          have hand2 := u32_and_nat (at6 (fwdM T M' ⟨f, g, lo, hi'⟩) g.toNat f.toNat) (trn T (2 ^ (hi' - lo + 1).toNat - 1) (-hi' % (T : Int)).toNat) (by have := hsm2.at hgN hfN; omega) (by have := trn_lt (s := 2 ^ (hi' - lo + 1).toNat - 1) (k := (-hi' % (T : Int)).toNat) (show T ≤ 24 by omega); omega)
          clear hz q0 q1 g0 g1 g2 g3 hand hf hx hlt hlo
          refine wp_region_drewN_tail 23 (by kernel_rfl) (by kernel_rfl) ?_
          simp only [List.take_succ_cons, List.take_zero, List.drop_succ_cons, List.drop_zero]
          repeat (go_big_quiet_step ((go_at_call 96; exact Calls.quiet_of (turned_any' T (2 ^ (hi' - lo + 1).toNat - 1) _ _ _ _ (by omega) (by omega) (by omega) (by omega) hmk (by omega) (by go_simp)))))
          refine wpQuiet_nil ?_
          rintro _ ⟨nr, rfl⟩
          have hf2 := ((hm2.drewN nr).out.free (g.toNat * 6 + f.toNat))
          have hm3 := (hm2.drewN nr).store (g.toNat * 6 + f.toNat) (at6 (fwdM T M' ⟨f, g, lo, hi'⟩) g.toNat f.toNat &&& trn T (2 ^ (hi' - lo + 1).toNat - 1) (-hi' % (T : Int)).toNat)
          go_wp2
          go_roundg (l.length - (k + 1))
          case measure => omega
          case rel => exact ⟨k + 1, _, by omega, rfl, by go_num, hm3, hstep.out⟩
        · obtain rfl : k = l.length := by omega
          have hA := Lib.hid hS'.ok
          clear hS' hS hs ha
          go_wp2
          clear q0 q1
          go_loopg [8] (M'.sum + 1) (fun g s8 wr => ∃ M ch, s8 = .bool ch ∧ g = M.sum + (if ch = true then 1 else 0) ∧ Mat w M wr ∧ ApartOk T r l M)
          case atStart => exact ⟨M', true, rfl, rfl, hm', hA.out⟩
          case round =>
            clear hA hm' hm hi hlt
            obtain ⟨M1, ch, rfl, rfl, hm1, hA1⟩ := hrel
            have q0 := (hm1.below.cell (p := ⟨p, 0, none⟩) hpl).trans p0
            have q1 := (hm1.below.cell (p := ⟨p, 1, none⟩) hpl).trans p1
            have hA2 := Lib.hid hA1; clear hA1
            cases ch
            · have hsz : (Try.prog.info? 135).map (·.size) = some (M1.map hset).toArray.size := by
                rw [show (M1.map hset).toArray.size = 36 by simp [hA2.out.small.1]]; kernel_rfl
              have hone : (M1.map hset).toArray.all (·.oneCell') = true := by simp [hset, Value.oneCell']
              go_wp2_with (first | (refine wpList_load_row rfl 135 (.tmp 3) rfl (w.heap.size + 1) rfl 135 _ (0, 0) _ hm1.out Try.underlying135 rfl hsz ?_) | (refine wpList_store_row rfl 135 (.tmp 2) (.tmp 171) rfl w.heap.size _ rfl rfl 135 _ hm1.res hsz (by simp [hA2.out.small.1]) hone ?_))
              refine bodyPost_ret (v := .agg (M1.map hset).toArray) (results_cell_row Try.results93 _ _ w.heap.size 135 _ (0, 0) _ rfl (setRow_heap _ _ _ _ _ _ hm1.res) Try.underlying135 rfl hsz) rfl ?_
              refine ⟨M1, hA2.out, rfl, World.grow_of_below (hm1.below.trans ⟨rfl, rfl, rfl, by simp, fun k hk => ?_⟩)⟩
              exact setRow_other _ _ _ _ (by omega)
            · go_wp2
              clear q0 q1
              have hS0 := Lib.hid (Nat.le_refl M1.sum)
              go_loopg [8, 107] r (fun g s8 i wr => ∃ kk M ch, kk ≤ r ∧ g = r - kk ∧ i = .int .i64 (kk : Nat) ∧ s8 = .bool ch ∧ Mat w M wr ∧ ApartOk T r l M ∧ Less M1 M ch)
              case atStart => exact ⟨0, M1, false, by omega, by omega, rfl, rfl, hm1, hA2.out, ⟨Nat.le_refl _, fun h => by cases h⟩⟩
              case round =>
                clear hA2 hm1
                obtain ⟨kk, M2, ch2, hkk, rfl, rfl, rfl, hm2, hA2, hL2⟩ := hrel
                have q0 := (hm2.below.cell (p := ⟨p, 0, none⟩) hpl).trans p0
                have q1 := (hm2.below.cell (p := ⟨p, 1, none⟩) hpl).trans p1
                have hH2 := Lib.hid (And.intro hA2 hL2); clear hA2 hL2
                by_cases hk1 : kk < r
                · go_wp2
                  clear q0 q1
                  go_loopg [8, 114] r (fun g s8 i wr => ∃ ii M ch, ii ≤ r ∧ g = r - ii ∧ i = .int .i64 (ii : Nat) ∧ s8 = .bool ch ∧ Mat w M wr ∧ ApartOk T r l M ∧ Less M1 M ch)
                  case atStart => exact ⟨0, M2, ch2, by omega, by omega, rfl, rfl, hm2, hH2.out.1, hH2.out.2⟩
                  case round =>
                    clear hH2 hm2
                    obtain ⟨ii, M3, ch3, hii, rfl, rfl, rfl, hm3, hA3, hL3⟩ := hrel
                    have q0 := (hm3.below.cell (p := ⟨p, 0, none⟩) hpl).trans p0
                    have q1 := (hm3.below.cell (p := ⟨p, 1, none⟩) hpl).trans p1
                    have hH3 := Lib.hid (And.intro hA3 hL3); clear hA3 hL3
                    by_cases hi1 : ii < r
                    · go_wp2
                      clear q0 q1
                      go_loopg [8, 121] r (fun g s8 i wr => ∃ jj M ch, jj ≤ r ∧ g = r - jj ∧ i = .int .i64 (jj : Nat) ∧ s8 = .bool ch ∧ Mat w M wr ∧ ApartOk T r l M ∧ Less M1 M ch)
                      case atStart => exact ⟨0, M3, ch3, by omega, by omega, rfl, rfl, hm3, hH3.out.1, hH3.out.2⟩
                      case round =>
                        clear hH3 hm3
                        obtain ⟨jj, M4, ch4, hjj, rfl, rfl, rfl, hm4, hA4, hL4⟩ := hrel
                        have q0 := (hm4.below.cell (p := ⟨p, 0, none⟩) hpl).trans p0
                        have q1 := (hm4.below.cell (p := ⟨p, 1, none⟩) hpl).trans p1
                        have hH4 := Lib.hid (And.intro hA4 hL4); clear hA4 hL4
                        by_cases hj1 : jj < r
                        · go_wp2
                          clear q0 q1
                          have hxx := Lib.hid (Joint.zero (T := T) (M := M4) (i := ii) (k := kk) (j := jj))
                          go_loopg [12, 128] T (fun g s12 i wr => ∃ c bb, c ≤ T ∧ g = T - c ∧ i = .int .i64 (c : Nat) ∧ s12 = .int .u32 (bb : Nat) ∧ Mat w M4 wr ∧ Joint T M4 ii kk jj c bb)
                          case atStart => exact ⟨0, 0, by omega, by omega, rfl, rfl, hm4, hxx.out⟩
                          case round =>
                            obtain ⟨c, bb, hc, rfl, rfl, rfl, hm5, hJ⟩ := hrel
                            have q0 := (hm5.below.cell (p := ⟨p, 0, none⟩) hpl).trans p0
                            have q1 := (hm5.below.cell (p := ⟨p, 1, none⟩) hpl).trans p1
                            have hx1 := hm5.cell (i := ii) (j := kk) (by omega) (by omega) hH4.out.1.small.1
                            have hx2 := hm5.cell (i := kk) (j := jj) (by omega) (by omega) hH4.out.1.small.1
                            have hx3 := hm5.cell (i := ii) (j := jj) (by omega) (by omega) hH4.out.1.small.1
                            have hJ5 := Lib.hid hJ; clear hJ
                            have hp24 := pow_small (t := T) (by omega)
                            have hv1 := hH4.out.1.small.at (i := ii) (j := kk) (by omega) (by omega)
                            have hv2 := hH4.out.1.small.at (i := kk) (j := jj) (by omega) (by omega)
                            have hv3 := hH4.out.1.small.at (i := ii) (j := jj) (by omega) (by omega)
                            have hbb := hJ5.out.1
                            by_cases hc1 : c < T
                            · have hand1 := and_bit_int (a := at6 M4 ii kk) (c := c) (by omega) (by omega)
                              by_cases hbit : (at6 M4 ii kk).testBit c = true
                              · have htest : (((at6 M4 ii kk &&& 2 ^ c : Nat) : Int) != 0) = true := and_bit_ne hbit
                                have hor := u32_or_nat bb (trn T (at6 M4 kk jj) ((c : Int) % (T : Int)).toNat) (by omega) (by have := trn_lt (s := at6 M4 kk jj) (k := ((c : Int) % (T : Int)).toNat) (show T ≤ 24 by omega); omega)
                                have hB5 := Lib.hid hbit; clear hbit
                                go_wp2
                                go_quiet (fail)
                                go_wp2_with (go_at_call 96; refine (turned_any T (at6 M4 kk jj) c p _ (by omega) (by omega) (by omega) (by omega) (by omega) (by go_simp)).mono ?_; rintro e w' ⟨rfl, m, rfl⟩)
                                go_roundg (T - (c + 1))
                                case measure => omega
                                case rel => exact ⟨c + 1, _, by omega, rfl, by go_num, rfl, hm5.drewN (nq + m), hJ5.out.take (by omega) (by omega) hv2 hB5.out hc1⟩
                              · have htest : (((at6 M4 ii kk &&& 2 ^ c : Nat) : Int) != 0) = false := and_bit_eq (by simpa using hbit)
                                have hB5 := Lib.hid hbit; clear hbit
                                go_wp2
                                go_quiet (fail)
                                go_wp2
                                go_roundg (T - (c + 1))
                                case measure => omega
                                case rel => exact ⟨c + 1, _, by omega, rfl, by go_num, rfl, hm5.drewN nq, hJ5.out.skip (by simpa using hB5.out)⟩
                            · obtain rfl : c = T := by omega
                              have hand3 := u32_andNot_nat (at6 M4 ii jj) bb (by omega) (by omega)
                              by_cases hz : at6 M4 ii jj &&& (4294967295 - bb) = 0
                              · have hz' : (((at6 M4 ii jj &&& (4294967295 - bb) : Nat) : Int) != 0) = false := by rw [hz]; rfl
                                have hZ := Lib.hid hz; clear hz
                                go_wp2
                                go_roundg (r - (jj + 1))
                                case measure => omega
                                case rel => exact ⟨jj + 1, M4, ch4, by omega, rfl, by go_num, rfl, hm5, hH4.out⟩
                              · have hz' : (((at6 M4 ii jj &&& (4294967295 - bb) : Nat) : Int) != 0) = true := by rw [bne_iff_ne]; omega
                                have hand4 := u32_and_nat (at6 M4 ii jj) bb (by omega) (by omega)
                                have hf5 := hm5.out.free (ii * 6 + jj)
                                have hm6 := (hm5.store (ii * 6 + jj) (at6 M4 ii jj &&& bb)).drew
                                have hZ := Lib.hid hz; clear hz
                                go_wp2
                                go_region
                                go_wp2
                                go_roundg (r - (jj + 1))
                                case measure => omega
                                case rel => exact ⟨jj + 1, _, true, by omega, rfl, by go_num, rfl, hm6, hH4.out.1.step (by omega) (by omega) (fun s hs => by have := hok s hs; omega) hi1 hk1 hj1 hJ5.out, hH4.out.2.step (at6_get (by omega) (by omega) hH4.out.1.small.1) (and_ne_lt (by omega) (by omega) hZ.out)⟩
                        · go_wp2
                          obtain rfl : jj = r := by omega
                          go_roundg (jj - (ii + 1))
                          case measure => omega
                          case rel => exact ⟨ii + 1, M4, ch4, by omega, rfl, by go_num, rfl, hm4, hH4.out⟩
                    · go_wp2
                      obtain rfl : ii = r := by omega
                      go_roundg (ii - (kk + 1))
                      case measure => omega
                      case rel => exact ⟨kk + 1, M3, ch3, by omega, rfl, by go_num, rfl, hm3, hH3.out⟩
                · go_wp2
                  obtain rfl : kk = r := by omega
                  go_roundg (M2.sum + (if ch2 = true then 1 else 0))
                  case measure => exact hH2.out.2.lt
                  case rel => exact ⟨M2, ch2, rfl, rfl, hm2, hH2.out.1⟩
end Go.Proofs.Ytmmpdfcnenljhaa.Turn
