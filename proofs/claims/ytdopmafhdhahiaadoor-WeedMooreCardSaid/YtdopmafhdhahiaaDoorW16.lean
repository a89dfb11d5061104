/- What a row becomes: grown. Its conditions are its premises. -/
import Derived.Test.YtdopmafhdhahiaaDoorW15
set_option linter.unusedVariables false
namespace Go.Proofs.YtdopmafhdhahiaaDoor
open Go.RowKit Go.Maps

def at0 (l : List Nat) (i : Nat) : Nat := l[i]?.getD 0
def growP (l : List Nat) (k : Nat) : Nat := 4 * at0 l k + 2 * at0 l (k + 1) + at0 l (k + 2)
def grownK (u : Nat) (l : List Nat) (k : Nat) : List Nat := (List.range k).map fun j => bit u (growP l j)
def grownV (u : Nat) (l : List Nat) : List Nat := grownK u l (l.length - 2)
theorem grownK_len (u : Nat) (l : List Nat) (k : Nat) : (grownK u l k).length = k := by simp [grownK]
theorem grownK_succ (u : Nat) (l : List Nat) (k : Nat) : nv (grownK u l (k + 1)) = nv (grownK u l k) ++ [.int .i64 (bit u (growP l k) : Int)] := by
  unfold nv grownK
  rw [List.range_succ, List.map_append, List.map_append]
  rfl
theorem at0_lt {l : List Nat} (hl : ∀ x ∈ l, x < 2) (i : Nat) : at0 l i < 2 := by
  unfold at0
  cases h : l[i]? with
  | none => simp
  | some x => exact hl x (List.mem_of_getElem? h)
theorem nats_at {w : World} {b off : Nat} {l : List Nat} (h : NatsAt w b off l) {i : Nat} (hi : i < l.length) : w.cell? ⟨b, off + i, none⟩ = some (.int .i64 (at0 l i : Nat)) := by
  have := h i hi
  unfold at0
  rw [List.getElem?_eq_getElem hi]
  exact this

theorem wrap_small {z : Int} (h0 : -2000000 ≤ z) (h1 : z ≤ 2000000) : IntKind.i64.wrap z = z := by
  rw [IntKind.wrap_i64]
  omega

/-- What the region keeps: three cells that it reads. -/
def SG (w0 : World) (own : Option Nat) (a0 a1 a2 : Addr) (x0 x1 x2 : Nat) (w' : World) : Prop :=
  w'.cell? a0 = some (.int .i64 (x0 : Int)) ∧ w'.cell? a1 = some (.int .i64 (x1 : Int)) ∧ w'.cell? a2 = some (.int .i64 (x2 : Int)) ∧ Chg (fun q => some q = own) w0 w'
theorem SG.alloc {w0 w' : World} {own : Option Nat} {a0 a1 a2 : Addr} {x0 x1 x2 : Nat} (h : SG w0 own a0 a1 a2 x0 x1 x2 w') (o : Obj) : SG w0 own a0 a1 a2 x0 x1 x2 (w'.alloc o) :=
  ⟨((Chg.refl (fun _ => False) w').alloc o).cell_some h.1 (fun x => x), ((Chg.refl (fun _ => False) w').alloc o).cell_some h.2.1 (fun x => x), ((Chg.refl (fun _ => False) w').alloc o).cell_some h.2.2.1 (fun x => x), h.2.2.2.alloc o⟩
theorem SG.put {w0 w' w'' : World} {own : Option Nat} {b o0 o1 o2 : Nat} {x0 x1 x2 : Nat} (h : SG w0 own ⟨b, o0, none⟩ ⟨b, o1, none⟩ ⟨b, o2, none⟩ x0 x1 x2 w') (hg : w'.grownBy w'' own) (hn : some b ≠ own) : SG w0 own ⟨b, o0, none⟩ ⟨b, o1, none⟩ ⟨b, o2, none⟩ x0 x1 x2 w'' :=
  ⟨(Chg.of_grownRow hg).cell_some h.1 hn, (Chg.of_grownRow hg).cell_some h.2.1 hn, (Chg.of_grownRow hg).cell_some h.2.2.1 hn, h.2.2.2.trans (Chg.of_grownRow hg) (fun _ x => .inl x)⟩

theorem of_int (u x0 x1 x2 : Nat) (hu : u < 256) (h0 : x0 < 2) (h1 : x1 < 2) (h2 : x2 < 2) (w : World) : Calls Tryd.prog 23 #[.int .i64 u, .int .i64 (4 * (x0 : Int) + 2 * (x1 : Int) + (x2 : Int))] w fun e w' => e = .returned (.int .i64 (bit u (4 * x0 + 2 * x1 + x2))) ∧ w' = w := by
  have := of_any u (4 * x0 + 2 * x1 + x2) hu (by omega) w
  rwa [show ((4 * x0 + 2 * x1 + x2 : Nat) : Int) = 4 * (x0 : Int) + 2 * (x1 : Int) + (x2 : Int) by omega] at this

set_option maxRecDepth 100000 in
set_option maxHeartbeats 1000000 in
theorem grown_any (u : Nat) (l : List Nat) (b off c : Nat) (w : World) (hu : u < 256) (hl : ∀ x ∈ l, x < 2) (hn : l.length ≤ 1000) (h3 : 3 ≤ l.length) (hat : NatsAt w b off l) :
    Calls Tryd.prog 32 #[.int .i64 u, .slice (some ⟨b, off, none⟩) l.length c] w fun e w' => ∃ v, e = .returned v ∧ w'.ownsRow w.heap.size 3 1 v (l.length - 2) (nv (grownV u l)) ∧ Chg (fun _ => False) w w' := by
  obtain ⟨i0, hi0, hz0, hz1, hz2⟩ := info_parts info3
  obtain ⟨B, hB⟩ : ∃ B, w.heap.size = B := ⟨_, rfl⟩
  have HB := Lib.hid hB; have HL := Lib.hid hl; have HAT := Lib.hid hat
  have HI0 := Lib.hid hi0; have HZ0 := Lib.hid hz0; have HZ1 := Lib.hid hz1; have HZ2 := Lib.hid hz2
  clear hl hi0 hz0 hz1 hz2 hat
  rw [hB]
  clear hB
  go_enter Tryd.func32, Tryd.ntmps32
  go_wp2_with fail
  go_loopg [6, 5] l.length (fun gm iv v wr => ∃ k i : Nat, i = k + 2 ∧ i ≤ l.length ∧ gm = l.length - k ∧ iv = .int .i64 (i : Int) ∧ wr.ownsRow B 3 1 v k (nv (grownK u l k)) ∧ Chg (fun _ => False) w wr)
  case atStart => exact ⟨0, 2, rfl, by omega, by omega, rfl, World.ownsRow_nil w B 3 1, Chg.refl _ w⟩
  case round =>
    obtain ⟨k, i, hik, hk, rfl, rfl, hown, hcg⟩ := hrel
    have HO := Lib.hid hown; have HC := Lib.hid hcg
    clear hown hcg
    by_cases hlt : i < l.length
    · have di : decide ((i : Int) < (l.length : Int)) = true := by simp; omega
      have hA := HAT.out.chg HC.out (fun x => x)
      have c0 := nats_at hA (i := k) (by omega)
      have c1 := nats_at hA (i := k + 1) (by omega)
      have c2 := nats_at hA (i := k + 2) (by omega)
      have b0 := at0_lt HL.out k; have b1 := at0_lt HL.out (k + 1); have b2 := at0_lt HL.out (k + 2)
      have HS := Lib.hid (grownK_succ u l k)
      have HP := Lib.hid (show growP l k = 4 * at0 l k + 2 * at0 l (k + 1) + at0 l (k + 2) from rfl)
      obtain ⟨x0, hx0⟩ : ∃ x, at0 l k = x := ⟨_, rfl⟩
      obtain ⟨x1, hx1⟩ : ∃ x, at0 l (k + 1) = x := ⟨_, rfl⟩
      obtain ⟨x2, hx2⟩ : ∃ x, at0 l (k + 2) = x := ⟨_, rfl⟩
      rw [hx0] at c0 b0 HP
      rw [hx1] at c1 b1 HP
      rw [hx2] at c2 b2 HP
      have hBw : B ≤ wr.heap.size := by have := HB.out; have := HC.out.size; omega
      have HOF := Lib.hid (fun w' => of_int u x0 x1 x2 hu b0 b1 b2 w')
      have hbb : b < w.heap.size := World.cell_lt (HAT.out 0 (by omega))
      have hbn : some b ≠ (u5).ownBlock := fun e => by have := (HO.out.lt b e.symm).1; have := HB.out; omega
      obtain ⟨y, hy⟩ : ∃ y, bit u (4 * x0 + 2 * x1 + x2) = y := ⟨_, rfl⟩
      rw [HP.out, hy] at HS
      simp only [hy] at HOF
      have k0 : (0 : Int) ≤ (i : Int) - 2 := by omega
      have k1 : (i : Int) - 2 < (l.length : Int) := by omega
      have k2 : (0 : Int) ≤ (i : Int) - 1 := by omega
      have k3 : (i : Int) - 1 < (l.length : Int) := by omega
      have k4 : (i : Int) < (l.length : Int) := by omega
      have k5 : (0 : Int) ≤ (i : Int) := by omega
      have v1 : IntKind.i64.wrap ((i : Int) - 2) = (i : Int) - 2 := wrap_small (by omega) (by omega)
      have v2 : IntKind.i64.wrap ((i : Int) - 1) = (i : Int) - 1 := wrap_small (by omega) (by omega)
      have v3 : IntKind.i64.wrap (4 * (x0 : Int)) = 4 * (x0 : Int) := wrap_small (by omega) (by omega)
      have v4 : IntKind.i64.wrap (2 * (x1 : Int)) = 2 * (x1 : Int) := wrap_small (by omega) (by omega)
      have v5 : IntKind.i64.wrap (4 * (x0 : Int) + 2 * (x1 : Int)) = 4 * (x0 : Int) + 2 * (x1 : Int) := wrap_small (by omega) (by omega)
      have v6 : IntKind.i64.wrap (4 * (x0 : Int) + 2 * (x1 : Int) + (x2 : Int)) = 4 * (x0 : Int) + 2 * (x1 : Int) + (x2 : Int) := wrap_small (by omega) (by omega)
      have t0 : ((i : Int) - 2).toNat = k := by omega
      have t1 : ((i : Int) - 1).toNat = k + 1 := by omega
      rw [show k + 2 = i by omega] at c2
      have n2 : 2 ≤ i := by omega
      have n1 : 1 ≤ i := by omega
      have z2 : (2 : Int) ≤ (i : Int) := by omega
      have z1 : (1 : Int) ≤ (i : Int) := by omega
      have HIK := Lib.hid hik
      clear hik
      clear hx0 hx1 hx2 hA HP hy
      go_wp2_with fail
      have hs0 : SG wr (u5).ownBlock ⟨b, off + k, none⟩ ⟨b, off + (k + 1), none⟩ ⟨b, off + i, none⟩ x0 x1 x2 wr.drew := ⟨c0, c1, c2, (Chg.refl _ _).drew⟩
      go_region_held3 (fun w' => w'.cell? ⟨b, off + k, none⟩ = some (.int .i64 (x0 : Int)) ∧ w'.cell? ⟨b, off + (k + 1), none⟩ = some (.int .i64 (x1 : Int)) ∧ w'.cell? ⟨b, off + i, none⟩ = some (.int .i64 (x2 : Int)) ∧ Chg (fun q => some q = (u5).ownBlock) wr w')
        (first | exact hs0 | exact SG.alloc hs0 _ | exact SG.put (SG.alloc hs0 _) hg6 hbn)
        (first
          | (go_at_call 23; refine (HOF.out _).mono ?_; rintro e w5 ⟨rfl, rfl⟩)
          | (refine step_append_two rfl (.tmp 13) (.tmp 34) 42 rfl B 3 i0 (.int .i64 0) 1 8 Tryd.underlying42 HI0.out HZ0.out HZ1.out HZ2.out rfl (by decide) _ k (nv (grownK u l k)) (by simp [Act.eval]) (owns_chg HO.out ((Chg.refl (fun _ => False) wr).drew.alloc (.cells #[.int .i64 (y : Int)] 3))) ⟨wr.heap.size, 0, none⟩ 1 1 [.int .i64 (y : Int)] (by simp [Act.eval]) rfl (fun j v hj => by rw [add_plain, Nat.zero_add]; exact (Blk.new wr.drew #[.int .i64 (y : Int)] 3).cell_some hj) (by intro v hv; simp at hv; subst hv; rfl) (by unfold maxLen; omega) (by omega) (by simp; omega) ?_; intro u6 w6 ho6 hg6 hl6))
      all_goals
        have hall : Chg (fun q => some q = (u5).ownBlock) wr w6 := ((Chg.refl (fun q => some q = (u5).ownBlock) wr).drew.alloc (.cells #[.int .i64 (y : Int)] 3)).trans (Chg.of_grownRow hg6) (fun _ h => .inl h)
        rename_i hheld
        clear hheld hl6 hs0 v1 v2 v3 v4 v5 v6 t0 t1 c0 c1 c2 HOF hg6
        have HALL := Lib.hid hall; have HO6 := Lib.hid ho6
        clear hall ho6
        go_wp2_with fail
        go_roundg (l.length - (k + 1))
        case measure => have := HIK.out; omega
        case rel => exact ⟨k + 1, i + 1, by have := HIK.out; omega, by omega, rfl, by go_num, by rw [HS.out]; exact HO6.out, HC.out.trans HALL.out (fun q hq => .inr (by have := (HO.out.lt q hq.symm).1; have := HB.out; omega))⟩
    · have hke : l.length - 2 = k := by omega
      have HF := Lib.hid (show nv (grownV u l) = nv (grownK u l k) by unfold grownV; rw [hke])
      have HKE := Lib.hid hke
      clear hik hke
      go_wp2_with fail
      go_ret
      exact ⟨_, rfl, by rw [HF.out, HKE.out]; exact HO.out, HC.out⟩
end Go.Proofs.YtdopmafhdhahiaaDoor
