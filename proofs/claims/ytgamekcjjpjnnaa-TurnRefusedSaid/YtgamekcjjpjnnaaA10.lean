/- A clone, and the visitors that count the plans and that keep the first one: Plans and Plan. Their conditions are their premises. -/
import Derived.Test.YtgamekcjjpjnnaaA9
import Derived.ArgAppend
import Derived.Lib.LazyBuf
set_option linter.unusedVariables false
namespace Go.Proofs.Ytgamekcjjpjnnaa
open Go.RowKit

theorem owns_ints {w : World} {base : Nat} {v : Value} {n : Nat} {X : List Int} (h : w.ownsRow base 3 1 v n (X.map (Value.int .i64))) (hX : X ≠ []) :
    ∃ g c, v = .slice (some ⟨g, 0, none⟩) X.length c ∧ base ≤ g ∧ g < w.heap.size ∧ IntsAt w g 0 X ∧ X.length ≤ c := by
  have hlen := h.1
  rcases h.2 with ⟨rfl, rfl⟩ | ⟨g, c, cur, rfl, hb, hg, hn, hc, hsz, htk⟩
  · simp at hlen; exact absurd hlen hX
  · have hl : n = X.length := by simpa using hlen.symm
    subst hl
    refine ⟨g, c, rfl, hb, (Array.getElem?_eq_some_iff.1 hg).1, fun k hk => ?_, hn⟩
    have := h.cells (g := g) rfl k (.int .i64 X[k]) (by simp [hk])
    rw [add_plain] at this
    exact this

theorem Chg.of_grown {w w' : World} (h : w.grownBy w' none) : Chg (fun _ => False) w w' := ⟨h.os, h.tape, h.output, h.size, fun k hk _ => h.block k hk (by simp)⟩

set_option maxHeartbeats 1000000 in
set_option maxRecDepth 100000 in
theorem clone_any (X : List Int) (g off c : Nat) (w : World) (hX : IntsAt w g off X) (h1 : 1 ≤ X.length) (h2 : X.length ≤ 1000) :
    Calls Try.prog 52 #[.slice (some ⟨g, off, none⟩) X.length c] w fun e w' => ∃ g' c', e = .returned (.slice (some ⟨g', 0, none⟩) X.length c') ∧ w.heap.size ≤ g' ∧ g' < w'.heap.size ∧ IntsAt w' g' 0 X ∧ Chg (fun _ => False) w w' := by
  obtain ⟨i0, hi0, hz0, hz1, hz2⟩ := info_parts info3
  have hnil : ∀ (w : World) (a : Option Addr) (l c : Nat), (binOp .eql 25 (.slice a l c) (.slice none 0 0)).run Try.prog w = .ok (.bool a.isNone) w := fun w a l c => Lib.run_eql_slice_nil w 25 3 a l c 0 0 Try.underlying25
  have HX := Lib.hid hX; have HI0 := Lib.hid hi0; have HZ0 := Lib.hid hz0; have HZ1 := Lib.hid hz1; have HZ2 := Lib.hid hz2; have H1 := Lib.hid h1; have H2 := Lib.hid h2
  clear hX hi0 hz0 hz1 hz2 h1 h2
  go_enter Try.func52, Try.ntmps52
  go_wp2_with (at_builtin; refine wpList_append_grows _ rfl _ _ 25 rfl 3 i0 (.int .i64 0) 1 8 Try.underlying25 HI0.out HZ0.out HZ1.out HZ2.out rfl (by decide) _ 0 0 [] rfl (fun _ => ⟨rfl, rfl⟩) rfl (fun b hb j u hu => by simp at hu) ⟨g, off, none⟩ X.length c (X.map (Value.int .i64)) rfl (by simp) ?c1 ?c2 ?c3 ?c4 ?c5 ?_; rotate_left 5; intro v1 w1 hown1 hgrow1)
  case c1 =>
    intro j u hu
    rw [add_plain]
    simp at hu
    obtain ⟨x, hx, rfl⟩ := hu
    obtain ⟨hj, rfl⟩ := List.getElem?_eq_some_iff.1 hx
    exact ((Chg.refl (fun _ => False) w).alloc _).cell_some (HX.out j hj) (fun x => x)
  case c2 => intro u hu; obtain ⟨x, _, rfl⟩ := List.mem_map.1 hu; rfl
  case c3 => have := H1.out; omega
  case c4 => have := H2.out; simp [maxLen]; omega
  case c5 => have := H2.out; omega
  rw [Nat.zero_add, List.nil_append] at hown1
  have h1 := H1.out
  obtain ⟨g', c', rfl, b1, b2, hI, _⟩ := owns_ints hown1 (by intro h; simp [h] at h1)
  go_ret
  have b1' : w.heap.size ≤ g' := by simp at b1; omega
  exact ⟨g', c', rfl, b1', b2, hI, ((Chg.refl (fun _ => False) w).alloc _).trans (Chg.of_grown hgrow1) (fun _ x => x.elim)⟩

/-- The visitor of Plans: it counts. -/
def manyV (bm : Nat) : Visitor Int where
  f := 50
  caught := #[.pointer (some ⟨bm, 0, none⟩)]
  step z _ := (decide (1000000 < wrap64 (z + 1)), wrap64 (z + 1))
  Own k := k = bm
  Inv _ _ z w := Blk w bm 3 [.int .i64 z]

theorem manyV_ok (bm T N : Nat) (l : List Sp) (B0 : Nat) (hB : bm < B0) : (manyV bm).Ok T N l B0 := by
  refine ⟨fun args w => rfl, fun k hk => by rw [show k = bm from hk]; exact hB, fun bh ha s w w' h1 h2 hI hc => hc.blk hI (by omega), ?_⟩
  intro bh ha s w X c h1 h2 h3 h4 hI hX hlen hR hok hc
  have hI' : Blk w bm 3 [.int .i64 s] := hI
  have g0 := hI'.cell_some (i := 0) rfl
  have hf0 := hI'.free 0
  have HI := Lib.hid hI'
  clear hI hI' hX hR hok
  show Calls Try.prog 50 #[.slice (some ⟨ha, 0, none⟩) X.length c, .pointer (some ⟨bm, 0, none⟩)] w _
  go_enter Try.func50, Try.ntmps50
  go_wp2
  go_ret
  exact ⟨rfl, HI.out.set 0 _, (Chg.refl (fun k => k = bm) w).setCell (a := ⟨bm, 0, none⟩) (.inl rfl) _⟩

theorem wrap64_small {z : Int} (h0 : 0 ≤ z) (h1 : z ≤ 2000000) : wrap64 z = z := by
  unfold wrap64
  omega

theorem runV_many (bm : Nat) : ∀ (L : List (List Int)) (z : Nat), z ≤ 1000000 → runV (manyV bm).step L (z : Int) = if 1000000 < z + L.length then (true, 1000001) else (false, ((z + L.length : Nat) : Int)) := by
  intro L
  induction L with
  | nil => intro z hz; simp only [runV, List.length_nil, Nat.add_zero]; rw [if_neg (by omega)]
  | cons X L ih =>
    intro z hz
    have e : (manyV bm).step (z : Int) X = (decide (1000000 < z + 1), ((z + 1 : Nat) : Int)) := by
      show (decide (1000000 < wrap64 ((z : Int) + 1)), wrap64 ((z : Int) + 1)) = _
      rw [wrap64_small (by omega) (by omega)]
      simp
      omega
    simp only [runV, e]
    by_cases h : 1000000 < z + 1
    · obtain rfl : z = 1000000 := by omega
      rw [if_pos (by simp), if_pos (by simp)]
      rfl
    · rw [if_neg (by simp; omega)]
      rw [ih (z + 1) (by omega), List.length_cons, show z + 1 + L.length = z + (L.length + 1) by omega]

/-- What Plans answers. -/
def plansE (t n : Int) (l : List Sp) : Int × Int :=
  if spansE t n l ≠ 0 then (0, spansE t n l) else if 1000000 < (plans t.toNat n.toNat l).length then (0, 8) else (((plans t.toNat n.toNat l).length : Nat), 0)

/-- What Plan answers. -/
def planE (t n : Int) (l : List Sp) : List Int × Int :=
  if spansE t n l ≠ 0 then ([], spansE t n l) else match (plans t.toNat n.toNat l).head? with
    | none => ([], 10)
    | some X => (X, 0)

theorem grow_chg (w : World) (x : Ext) : Chg (fun _ => False) w (w.grow x) := (Chg.refl _ w).grow x

set_option maxRecDepth 100000 in
set_option maxHeartbeats 1000000 in
theorem Plans_any (t n : Int) (l : List Sp) (a : Option Addr) (cap : Nat) (w : World) (b off : Nat) (hs : SpansAt w b off l) (ha : l = [] ∨ a = some ⟨b, off, none⟩) :
    Calls Try.prog 22 #[.int .i64 t, .int .i64 n, .slice a l.length cap] w fun e w' => e = .returned (.tuple #[.int .i64 (plansE t n l).1, .int .i64 (plansE t n l).2]) ∧ Chg (fun _ => False) w w' := by
  have hmf : ∀ (fn : Fn) (first cap : Array Value) (w : World), (Instr.makeFunc fn first cap).run Try.prog w = .ok (.func fn first cap) w := fun _ _ _ _ => rfl
  have HS := Lib.hid hs; have HA := Lib.hid ha; clear hs ha
  go_enter Try.func22, Try.ntmps22
  go_wp2_with fail
  refine (of_any t n l a cap w b off HS.out HA.out).mono ?_
  rintro e w' ⟨⟨x, rfl⟩, ⟨h0, rfl⟩ | ⟨h0, p, rfl, hp, hsz⟩⟩
  · have hq : (spansE t n l != 0) = true := by simpa using h0
    have H0 := Lib.hid h0; clear h0
    go_wp2_with fail
    go_ret2
    have h0 := H0.out
    unfold plansE
    rw [if_pos h0]
    exact ⟨rfl, grow_chg w x⟩
  · have hv := valid_of h0
    obtain ⟨T, rfl⟩ : ∃ T : Nat, t = T := ⟨t.toNat, by have := hv.t1; omega⟩
    obtain ⟨N, rfl⟩ : ∃ N : Nat, n = N := ⟨n.toNat, by have := hv.n1; omega⟩
    have H0 := Lib.hid h0; have HV := Lib.hid hv; have HP := Lib.hid hp
    clear h0 hv hp
    have hc0 := grow_chg w x
    have HSW := Lib.hid (HS.out.chg hc0 (fun x => x))
    generalize w.grow x = W at hc0 HP HSW ⊢
    have hpb : p < W.heap.size := World.cell_lt HP.out.1
    have hc1 : Chg (fun _ => False) W (W.alloc (Obj.cells #[Value.int IntKind.i64 0] 3)) := (Chg.refl _ W).alloc _
    have hblk := Blk.new W #[Value.int IntKind.i64 0] 3
    have hsz1 : (W.alloc (Obj.cells #[Value.int IntKind.i64 0] 3)).heap.size = W.heap.size + 1 := by simp
    have HC0 := Lib.hid hc0; have HC1 := Lib.hid hc1; have HB := Lib.hid hblk; have HS1 := Lib.hid hsz1
    clear hc0 hc1 hblk hsz1
    go_wp2_with fail
    generalize (W.alloc (Obj.cells #[Value.int IntKind.i64 0] 3)) = W1 at HC1 HB HS1 ⊢
    have hs1 := HS1.out
    refine (each_any (manyV W.heap.size) T N l 0 p b off a cap W1 (manyV_ok _ T N l _ (by omega)) (HSW.out.chg HC1.out (fun x => x)) HA.out HV.out (HP.out.chg HC1.out (fun x => x)) (fun bh ha _ _ => HB.out) (fun x => by have : p = W.heap.size := x; omega)).mono ?_
    have hrv := runV_many W.heap.size (plans T N l) 0 (by omega)
    rw [Nat.zero_add] at hrv
    rintro e w' ⟨rfl, ⟨bh, ha, _, _, hI⟩, hc2⟩
    have hcc : Chg (fun _ => False) w w' := (HC0.out.trans HC1.out (fun _ x => x.elim)).trans hc2 (fun k hk => .inr (by have := HC0.out.size; have : k = W.heap.size := hk; omega))
    have hE : plansE (T : Int) (N : Int) l = if 1000000 < (plans T N l).length then ((0 : Int), (8 : Int)) else ((((plans T N l).length : Nat) : Int), 0) := by
      unfold plansE
      rw [if_neg (by simpa using H0.out), Int.toNat_natCast, Int.toNat_natCast]
    by_cases hm : 1000000 < (plans T N l).length
    · rw [if_pos hm] at hrv hE
      have hr2 : runV (manyV W.heap.size).step (plans T N l) 0 = (true, 1000001) := hrv
      rw [hr2]
      have HE := Lib.hid hE
      clear hE hr2 hrv
      go_wp2_with fail
      go_ret2
      rw [HE.out]
      exact ⟨rfl, hcc⟩
    · rw [if_neg hm] at hrv hE
      have hr2 : runV (manyV W.heap.size).step (plans T N l) 0 = (false, (((plans T N l).length : Nat) : Int)) := hrv
      rw [hr2] at hI ⊢
      have HE := Lib.hid hE
      have hI' : Blk w' W.heap.size 3 [.int .i64 (((plans T N l).length : Nat) : Int)] := hI
      have g0 := hI'.cell_some (i := 0) rfl
      clear hI hI' hE hr2 hrv
      go_wp2_with fail
      go_ret2
      rw [HE.out]
      exact ⟨rfl, hcc⟩

/-- The visitor of Plan: it keeps a clone and answers true. -/
def firstV (bo : Nat) : Visitor (Option (List Int)) where
  f := 51
  caught := #[.pointer (some ⟨bo, 0, none⟩)]
  step _ X := (true, some X)
  Own k := k = bo
  Inv bh ha s w := match s with
    | none => Blk w bo 25 [.slice none 0 0]
    | some X => ∃ g cap, Blk w bo 25 [.slice (some ⟨g, 0, none⟩) X.length cap] ∧ IntsAt w g 0 X ∧ g ≠ bh ∧ g ≠ ha ∧ g < w.heap.size

theorem firstV_ok (bo T N : Nat) (hN : 1 ≤ N) (hN2 : N ≤ 6) (l : List Sp) (B0 : Nat) (hB : bo < B0) : (firstV bo).Ok T N l B0 := by
  refine ⟨fun args w => rfl, fun k hk => by rw [show k = bo from hk]; exact hB, fun bh ha s w w' h1 h2 hI hc => ?_, ?_⟩
  · cases s with
    | none => exact hc.blk hI (by omega)
    | some X =>
      obtain ⟨g, cap, k1, k2, k3, k4, k5⟩ := hI
      exact ⟨g, cap, hc.blk k1 (by omega), k2.chg hc (by omega), k3, k4, Nat.lt_of_lt_of_le k5 hc.size⟩
  intro bh ha s w X c h1 h2 h3 h4 hI hX hlen hR hok hc
  obtain ⟨v0, hI'⟩ : ∃ v0, Blk w bo 25 [v0] := by
    cases s with
    | none => exact ⟨_, hI⟩
    | some Y => obtain ⟨g, cap, k1, _⟩ := hI; exact ⟨_, k1⟩
  have hX1 : 1 ≤ X.length := by omega
  have hX2 : X.length ≤ 1000 := by omega
  have HI := Lib.hid hI'; have HX := Lib.hid hX
  have hbo := hI'.lt
  clear hI hI' hX hR hok hlen
  show Calls Try.prog 51 #[.slice (some ⟨ha, 0, none⟩) X.length c, .pointer (some ⟨bo, 0, none⟩)] w _
  go_enter Try.func51, Try.ntmps51
  go_wp2_with fail
  refine (clone_any X ha 0 c w HX.out hX1 hX2).mono ?_
  rintro e w' ⟨g, c', rfl, b1, b2, hI2, hc2⟩
  have hb := hc2.blk HI.out (fun x => x)
  have g0 := hb.cell_some (i := 0) rfl
  have hf0 := hb.free 0
  have HB := Lib.hid hb; clear hb
  go_wp2_with fail
  go_ret
  refine ⟨rfl, ⟨g, c', HB.out.set 0 _, hI2.chg ((Chg.refl (fun k => k = bo) w').setCell (a := ⟨bo, 0, none⟩) (.inl rfl) _) (by omega), by omega, by omega, ?_⟩,
    (hc2.mono (S' := fun k => k = bo) (fun _ x => x.elim)).setCell (a := ⟨bo, 0, none⟩) (.inl rfl) _⟩
  simpa [World.setCell] using b2

theorem runV_first (bo : Nat) (L : List (List Int)) : runV (firstV bo).step L none = match L.head? with | none => (false, none) | some X => (true, some X) := by
  cases L with
  | nil => rfl
  | cons X L => rfl

set_option maxRecDepth 100000 in
set_option maxHeartbeats 1000000 in
theorem Plan_any (t n : Int) (l : List Sp) (a : Option Addr) (cap : Nat) (w : World) (b off : Nat) (hs : SpansAt w b off l) (ha : l = [] ∨ a = some ⟨b, off, none⟩) :
    Calls Try.prog 23 #[.int .i64 t, .int .i64 n, .slice a l.length cap] w fun e w' => ∃ ao c g, e = .returned (.tuple #[.slice ao (planE t n l).1.length c, .int .i64 (planE t n l).2]) ∧
      ((planE t n l).1 = [] ∨ ao = some ⟨g, 0, none⟩) ∧ IntsAt w' g 0 (planE t n l).1 ∧ Chg (fun _ => False) w w' := by
  have hmf : ∀ (fn : Fn) (first cap : Array Value) (w : World), (Instr.makeFunc fn first cap).run Try.prog w = .ok (.func fn first cap) w := fun _ _ _ _ => rfl
  have HS := Lib.hid hs; have HA := Lib.hid ha; clear hs ha
  go_enter Try.func23, Try.ntmps23
  go_wp2_with fail
  refine (of_any t n l a cap w b off HS.out HA.out).mono ?_
  rintro e w' ⟨⟨x, rfl⟩, ⟨h0, rfl⟩ | ⟨h0, p, rfl, hp, hsz⟩⟩
  · have hq : (spansE t n l != 0) = true := by simpa using h0
    have H0 := Lib.hid h0; clear h0
    go_wp2_with fail
    go_ret2
    have h0 := H0.out
    unfold planE
    rw [if_pos h0]
    exact ⟨none, 0, 0, rfl, .inl rfl, fun k hk => by simp at hk, grow_chg w x⟩
  · have hv := valid_of h0
    obtain ⟨T, rfl⟩ : ∃ T : Nat, t = T := ⟨t.toNat, by have := hv.t1; omega⟩
    obtain ⟨N, rfl⟩ : ∃ N : Nat, n = N := ⟨n.toNat, by have := hv.n1; omega⟩
    have H0 := Lib.hid h0; have HV := Lib.hid hv; have HP := Lib.hid hp
    clear h0 hv hp
    have hc0 := grow_chg w x
    have HSW := Lib.hid (HS.out.chg hc0 (fun x => x))
    generalize w.grow x = W at hc0 HP HSW ⊢
    have hpb : p < W.heap.size := World.cell_lt HP.out.1
    have hc1 : Chg (fun _ => False) W (W.alloc (Obj.cells #[Value.slice none 0 0] 25)) := (Chg.refl _ W).alloc _
    have hblk := Blk.new W #[Value.slice none 0 0] 25
    have hsz1 : (W.alloc (Obj.cells #[Value.slice none 0 0] 25)).heap.size = W.heap.size + 1 := by simp
    have HC0 := Lib.hid hc0; have HC1 := Lib.hid hc1; have HB := Lib.hid hblk; have HS1 := Lib.hid hsz1
    clear hc0 hc1 hblk hsz1
    go_wp2_with fail
    generalize (W.alloc (Obj.cells #[Value.slice none 0 0] 25)) = W1 at HC1 HB HS1 ⊢
    have hs1 := HS1.out
    refine (each_any (firstV W.heap.size) T N l none p b off a cap W1 (firstV_ok _ T N (by have := HV.out.n1; omega) (by have := HV.out.n2; omega) l _ (by omega)) (HSW.out.chg HC1.out (fun x => x)) HA.out HV.out (HP.out.chg HC1.out (fun x => x)) (fun bh ha _ _ => HB.out) (fun x => by have : p = W.heap.size := x; omega)).mono ?_
    have hrv := runV_first W.heap.size (plans T N l)
    rintro e w' ⟨rfl, ⟨bh, ha, _, _, hI⟩, hc2⟩
    have hcc : Chg (fun _ => False) w w' := (HC0.out.trans HC1.out (fun _ x => x.elim)).trans hc2 (fun k hk => .inr (by have := HC0.out.size; have : k = W.heap.size := hk; omega))
    have hE : planE (T : Int) (N : Int) l = match (plans T N l).head? with | none => ([], 10) | some X => (X, 0) := by
      unfold planE
      rw [if_neg (by simpa using H0.out), Int.toNat_natCast, Int.toNat_natCast]
    cases hm : (plans T N l).head? with
    | none =>
      rw [hm] at hrv hE
      have hr2 : runV (firstV W.heap.size).step (plans T N l) none = (false, none) := hrv
      have hE2 : planE (T : Int) (N : Int) l = ([], 10) := hE
      rw [hr2]
      have HE := Lib.hid hE2
      clear hE hE2 hr2 hrv hm
      go_wp2_with fail
      go_ret2
      rw [HE.out]
      exact ⟨none, 0, 0, rfl, .inl rfl, fun k hk => by simp at hk, hcc⟩
    | some X =>
      rw [hm] at hrv hE
      have hr2 : runV (firstV W.heap.size).step (plans T N l) none = (true, some X) := hrv
      have hE2 : planE (T : Int) (N : Int) l = (X, 0) := hE
      rw [hr2] at hI ⊢
      have HE := Lib.hid hE2
      obtain ⟨g, c', k1, k2, _⟩ := hI
      have g0 := k1.cell_some (i := 0) rfl
      clear hE hE2 hr2 hrv hm
      have K2 := Lib.hid k2; clear k2 k1
      go_wp2_with fail
      go_ret2
      rw [HE.out]
      exact ⟨_, _, g, rfl, .inr rfl, K2.out, hcc⟩
end Go.Proofs.Ytgamekcjjpjnnaa
