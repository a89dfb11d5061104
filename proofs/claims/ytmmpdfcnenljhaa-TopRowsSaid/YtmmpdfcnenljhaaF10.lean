/- The polynomial of a garden of at most ten fences, walked. Its conditions are its premises. -/
import Derived.Test.YtmmpdfcnenljhaaF9
set_option linter.unusedVariables false
namespace Go.Proofs.Ytmmpdfcnenljhaa
open Go.RowKit

/-- The polynomial of a garden, by deletion and contraction. -/
def polyV (N : Nat) : Nat → List Fe → List Int
  | 0, _ => 1 :: List.replicate 224 0
  | _ + 1, [] => 1 :: List.replicate 224 0
  | m + 1, f :: r =>
    if f.b = f.a then List.replicate 15 0 ++ (polyV N m r).take 210
    else if bridgeB N (f :: r) 0 = true then xrows (polyV N m (r.map (closeFe f))) 15
    else plusTo (polyV N m r) (polyV N m (r.map (closeFe f))) 225

theorem Valid.tail {n : Int} {f : Fe} {r : List Fe} (h : Valid n (f :: r)) : Valid n r := ⟨h.n1, h.n2, by have := h.len; simp at this; omega, fun x hx => h.ok x (List.mem_cons_of_mem _ hx)⟩

theorem Valid.closed {n : Int} {f : Fe} {r : List Fe} (h : Valid n (f :: r)) : Valid n (r.map (closeFe f)) := by
  refine ⟨h.n1, h.n2, by have := h.len; simp at this ⊢; omega, fun x hx => ?_⟩
  obtain ⟨y, hy, rfl⟩ := List.mem_map.1 hx
  have h1 := h.ok f List.mem_cons_self
  have h2 := h.ok y (List.mem_cons_of_mem _ hy)
  unfold closeFe
  dsimp only
  refine ⟨?_, ?_, ?_, ?_⟩ <;> split <;> omega

def GS (p : Nat) (N : Int) (v : Value) (w0 w' : World) : Prop := w'.cell? ⟨p, 0, none⟩ = some (.int .i64 N) ∧ w'.cell? ⟨p, 1, none⟩ = some v ∧ Chg (fun _ => False) w0 w'
theorem GS.start {p : Nat} {N : Int} {v : Value} {w0 : World} (h : GardenAt w0 p N v) : GS p N v w0 w0.drew := ⟨h.1, h.2, (Chg.refl _ _).drew⟩
theorem GS.alloc {p : Nat} {N : Int} {v : Value} {w0 w' : World} (h : GS p N v w0 w') (o : Obj) : GS p N v w0 (w'.alloc o) :=
  ⟨((Chg.refl (fun _ => False) w').alloc o).cell_some h.1 (fun x => x), ((Chg.refl (fun _ => False) w').alloc o).cell_some h.2.1 (fun x => x), h.2.2.alloc o⟩
theorem GS.chg {p : Nat} {N : Int} {v : Value} {w0 w' w'' : World} (h : GS p N v w0 w') (hc : Chg (fun _ => False) w' w'') : GS p N v w0 w'' :=
  ⟨hc.cell_some h.1 (fun x => x), hc.cell_some h.2.1 (fun x => x), h.2.2.trans hc (fun _ x => x.elim)⟩

theorem one_poly (w : World) (p : Nat) (h : Blk w p 78 ((1 :: List.replicate 224 (0 : Int)).map (Value.int .i64))) : PolyAt w p (1 :: List.replicate 224 0) := ⟨h, by rw [List.length_cons, List.length_replicate]⟩

set_option maxRecDepth 100000 in
set_option maxHeartbeats 1000000 in
theorem poly_nil (N p cap : Nat) (a : Option Addr) (w : World) (hp : GardenAt w p N (.slice a 0 cap)) :
    Calls Try.prog 25 #[.pointer (some ⟨p, 0, none⟩)] w fun e w' => ∃ p', e = .returned (.pointer (some ⟨p', 0, none⟩)) ∧ PolyAt w' p' (1 :: List.replicate 224 0) ∧ Chg (fun _ => False) w w' := by
  obtain ⟨q0, q1⟩ := hp

  go_enter Try.func25, Try.ntmps25
  go_wp2_with fail
  go_ret
  exact ⟨_, rfl, one_poly _ _ ((show ∀ (X : Array Value) (L : List Value), X.toList = L → Blk (w.alloc (.cells X 78)) w.heap.size 78 L from fun X L hX => hX ▸ Blk.new w X 78) _ _ (by kernel_rfl)), (Chg.refl _ _).alloc _⟩

/-- What the walk of a garden's polynomial says. -/
def PPost (T : List Int) (w : World) (e : Ending) (w' : World) : Prop := ∃ p', e = .returned (.pointer (some ⟨p', 0, none⟩)) ∧ PolyAt w' p' T ∧ Chg (fun _ => False) w w'

/-- A garden with its fences in memory. -/
structure GF (w : World) (p N : Nat) (l : List Fe) : Prop where
  ex : ∃ (a : Option Addr) (cap b off : Nat), (l = [] ∨ a = some ⟨b, off, none⟩) ∧ FencesAt w b off l ∧ GardenAt w p N (.slice a l.length cap)

theorem GF.chg {w w' : World} {p N : Nat} {l : List Fe} {S : Nat → Prop} (h : GF w p N l) (hc : Chg S w w') (hn : ∀ b, ¬ S b) : GF w' p N l := by
  obtain ⟨a, cap, b, off, h1, h2, h3⟩ := h.ex
  exact ⟨a, cap, b, off, h1, h2.chg hc (hn b), h3.chg hc (hn p)⟩

theorem polyV_len (N : Nat) : ∀ m l, (polyV N m l).length = 225
  | 0, _ => by rw [polyV, List.length_cons, List.length_replicate]
  | m + 1, [] => by rw [polyV, List.length_cons, List.length_replicate]
  | m + 1, f :: r => by
    rw [polyV]
    have h := polyV_len N m r
    split
    · simp only [List.length_append, List.length_replicate, List.length_take]; omega
    · split
      · exact xrows_len _ _
      · exact plusTo_len _ _ _

theorem getD_cases (T : List Int) (i : Nat) (P : Int → Prop) (h0 : P 0) (h : ∀ x ∈ T, P x) : P (T.getD i 0) := by
  rw [List.getD_eq_getElem?_getD]
  by_cases hi : i < T.length
  · rw [List.getElem?_eq_getElem hi]; exact h _ (List.getElem_mem hi)
  · rw [List.getElem?_eq_none (by omega)]; exact h0

theorem polyV_bound (N : Nat) : ∀ m l, ∀ x ∈ polyV N m l, 0 ≤ x ∧ x ≤ 2 ^ m
  | 0, _ => by
    intro x hx
    rw [polyV, List.mem_cons, List.mem_replicate] at hx
    rcases hx with rfl | ⟨_, rfl⟩ <;> decide
  | m + 1, [] => by
    intro x hx
    have h2 : (1 : Int) ≤ 2 ^ (m + 1) := by exact_mod_cast Nat.one_le_two_pow
    rw [polyV, List.mem_cons, List.mem_replicate] at hx
    rcases hx with rfl | ⟨_, rfl⟩ <;> omega
  | m + 1, f :: r => by
    intro x hx
    have h1 := polyV_bound N m r
    have h2 := polyV_bound N m (r.map (closeFe f))
    have hp : (2 : Int) ^ (m + 1) = 2 * 2 ^ m := by rw [Int.pow_succ]; omega
    have hp0 : (0 : Int) ≤ 2 ^ m := by exact_mod_cast Nat.zero_le (2 ^ m)
    rw [polyV] at hx
    split at hx
    · rcases List.mem_append.1 hx with h | h
      · have := (List.mem_replicate.1 h).2; omega
      · have := h1 x (List.mem_of_mem_take h); omega
    · split at hx
      · unfold xrows at hx
        obtain ⟨i, _, rfl⟩ := List.mem_map.1 hx
        split
        · have := getD_cases (polyV N m (r.map (closeFe f))) (i - 1) (fun x => 0 ≤ x ∧ x ≤ 2 ^ m) ⟨by omega, hp0⟩ h2; omega
        · omega
      · unfold plusTo at hx
        obtain ⟨i, _, rfl⟩ := List.mem_map.1 hx
        have e1 := getD_cases (polyV N m r) i (fun x => 0 ≤ x ∧ x ≤ 2 ^ m) ⟨by omega, hp0⟩ h1
        have e2 := getD_cases (polyV N m (r.map (closeFe f))) i (fun x => 0 ≤ x ∧ x ≤ 2 ^ m) ⟨by omega, hp0⟩ h2
        split <;> omega

theorem polyV_small (N m : Nat) (l : List Fe) (hm : m ≤ 10) : Small (polyV N m l) := fun i => by
  refine getD_cases _ i (fun x => 0 ≤ x ∧ x ≤ 1000000) (by omega) fun x hx => ?_
  obtain ⟨h1, h2⟩ := polyV_bound N m l x hx
  have : (2 : Int) ^ m ≤ 2 ^ 10 := by exact_mod_cast Nat.pow_le_pow_right (by decide) hm
  omega

set_option maxRecDepth 100000 in
set_option maxHeartbeats 1000000 in
theorem poly_cons (N m : Nat) (f : Fe) (r : List Fe) (p : Nat) (w : World) (hv : Valid N (f :: r)) (hm : r.length ≤ 9) (hmr : m = r.length) (hp : GF w p N (f :: r))
    (ih : ∀ (l : List Fe) (p : Nat) (w : World), l.length = r.length → Valid N l → GF w p N l → Calls Try.prog 25 #[.pointer (some ⟨p, 0, none⟩)] w (PPost (polyV N m l) w)) :
    Calls Try.prog 25 #[.pointer (some ⟨p, 0, none⟩)] w (PPost (polyV N (m + 1) (f :: r)) w) := by
  obtain ⟨a, cap, b, off, ha, hs, hg⟩ := hp.ex
  have hsa : a = some ⟨b, off, none⟩ := ha.resolve_left (by simp)
  subst hsa
  rw [List.length_cons] at hg
  obtain ⟨q0, q1⟩ := hg
  obtain ⟨c0, c1⟩ := hs 0 (by simp)
  simp only [Nat.zero_mul, Nat.add_zero, List.getElem_cons_zero] at c0 c1
  have HIH := Lib.hid ih; have HV := Lib.hid hv; have HS := Lib.hid hs; have HG := Lib.hid (show GardenAt w p N (.slice (some ⟨b, off, none⟩) (r.length + 1) cap) from ⟨q0, q1⟩)
  have HCW := Lib.hid (fun (w' : World) (hc : Chg (fun _ => False) w w') => without_any f r b off cap w' (hs.chg hc (fun x => x)) (by omega))
  have HCC := Lib.hid (fun (w' : World) (hc : Chg (fun _ => False) w w') => closed_any f r b off cap w' (hs.chg hc (fun x => x)) (by omega))
  obtain ⟨bf, hbf⟩ : ∃ bf, w.heap.size = bf := ⟨_, rfl⟩
  have hB := Blk.new w #[.int .i64 f.a, .int .i64 f.b] 24
  rw [hbf] at hB
  have HB := Lib.hid hB
  have HC1 := Lib.hid ((Chg.refl (fun _ => False) w).alloc (.cells #[.int .i64 f.a, .int .i64 f.b] 24))
  clear ih hv hs hp ha hB
  go_enter Try.func25, Try.ntmps25
  go_wp2_with fail
  clear hbf q0 q1 c0 c1
  generalize w.alloc (.cells #[.int .i64 f.a, .int .i64 f.b] 24) = W1 at HB HC1 ⊢
  have hgs : GS p N (.slice (some ⟨b, off, none⟩) (r.length + 1) cap) W1 W1.drew := GS.start (HG.out.chg HC1.out (fun x => x))
  go_region_held3 (fun w' => w'.cell? ⟨p, 0, none⟩ = some (.int .i64 (N : Int)) ∧ w'.cell? ⟨p, 1, none⟩ = some (.slice (some ⟨b, off, none⟩) (r.length + 1) cap) ∧ Chg (fun _ => False) W1 w')
    (first | exact hgs | exact GS.chg hgs hc2 | exact GS.alloc (GS.chg hgs hc2) _)
    (first
      | (go_at_call 47; refine (HCW.out _ HC1.out.drew).mono ?_; rintro e w2 ⟨g, c, rfl, hg, hF, hc2⟩))
  all_goals
    have hcg3 := (HC1.out.drew.trans hc2 (fun _ x => x.elim)).alloc (.cells #[.int .i64 N, .slice (some ⟨g, 0, none⟩) r.length c] 75)
    have hb3 := ((hc2.blk HB.out.drew (fun x => x)).alloc (.cells #[.int .i64 N, .slice (some ⟨g, 0, none⟩) r.length c] 75))
    have hgl : GF (w2.alloc (.cells #[.int .i64 N, .slice (some ⟨g, 0, none⟩) r.length c] 75)) w2.heap.size N r :=
      ⟨_, c, g, 0, .inr rfl, hF.at_.chg ((Chg.refl (fun _ => False) w2).alloc _) (fun x => x), (Blk.new w2 #[.int .i64 N, .slice (some ⟨g, 0, none⟩) r.length c] 75).cell_some rfl, (Blk.new w2 #[.int .i64 N, .slice (some ⟨g, 0, none⟩) r.length c] 75).cell_some rfl⟩
    rename_i hheld
    clear hheld hF hg hc2 hgs HCW HC1 HB
    generalize w2.alloc (.cells #[.int .i64 N, .slice (some ⟨g, 0, none⟩) r.length c] 75) = W3 at hcg3 hb3 hgl ⊢
    generalize w2.heap.size = pl at hgl ⊢
    have HC3 := Lib.hid hcg3; have HB3 := Lib.hid hb3; have HGL := Lib.hid hgl
    have c0 := hb3.cell_some (i := 0) rfl
    have c1 := hb3.cell_some (i := 1) rfl
    clear hcg3 hb3 hgl
    by_cases hab : f.b = f.a
    · have HPV := Lib.hid (show polyV N (m + 1) (f :: r) = List.replicate 15 0 ++ (polyV N m r).take 210 by rw [polyV, if_pos hab])
      have hd : (f.b == f.a) = true := by simpa using hab
      have hd2 : decide (f.b = f.a) = true := by simpa using hab
      clear hab
      go_wp2_with fail
      refine (HIH.out r pl W3 rfl HV.out.tail HGL.out).mono ?_
      rintro e w4 ⟨p4, rfl, hp4, hc4⟩
      have HP4 := Lib.hid hp4; have HC4 := Lib.hid (HC3.out.trans hc4 (fun _ x => x.elim))
      clear hp4 hc4
      go_wp2_with fail
      refine (timesY_any _ p4 w4 HP4.out).mono ?_
      rintro e w5 ⟨p5, rfl, hp5, hc5⟩
      have HP5 := Lib.hid hp5; have HC5 := Lib.hid (HC4.out.trans hc5 (fun _ x => x.elim))
      clear hp5 hc5
      go_wp2_with fail
      go_ret
      exact ⟨p5, rfl, by rw [HPV.out]; exact HP5.out, HC5.out⟩
    · have hd : (f.b == f.a) = false := by simpa using hab
      have hd2 : decide (f.b = f.a) = false := by simpa using hab
      have HAB := Lib.hid hab
      clear hab
      go_wp2_with fail
      clear c0 c1
      have hgs : GS p N (.slice (some ⟨b, off, none⟩) (r.length + 1) cap) W3 W3.drew := GS.start (HG.out.chg HC3.out (fun x => x))
      go_region_held3 (fun w' => w'.cell? ⟨p, 0, none⟩ = some (.int .i64 (N : Int)) ∧ w'.cell? ⟨p, 1, none⟩ = some (.slice (some ⟨b, off, none⟩) (r.length + 1) cap) ∧ Chg (fun _ => False) W3 w')
        (first | exact hgs | exact GS.chg hgs hc2 | exact GS.alloc (GS.chg hgs hc2) _)
        (first
          | (go_at_call 49; refine (HCC.out _ HC3.out.drew).mono ?_; rintro e w4 ⟨g4, d4, rfl, hg, hF, hc2⟩))
      all_goals
        have hcg5 := (HC3.out.drew.trans hc2 (fun _ x => x.elim)).alloc (.cells #[.int .i64 N, .slice (some ⟨g4, 0, none⟩) r.length d4] 75)
        have hgo : GF (w4.alloc (.cells #[.int .i64 N, .slice (some ⟨g4, 0, none⟩) r.length d4] 75)) w4.heap.size N (r.map (closeFe f)) :=
          ⟨_, d4, g4, 0, .inr rfl, hF.at_.chg ((Chg.refl (fun _ => False) w4).alloc _) (fun x => x), (Blk.new w4 #[.int .i64 N, .slice (some ⟨g4, 0, none⟩) r.length d4] 75).cell_some rfl, by rw [List.length_map]; exact (Blk.new w4 #[.int .i64 N, .slice (some ⟨g4, 0, none⟩) r.length d4] 75).cell_some rfl⟩
        have hgl5 : GF (w4.alloc (.cells #[.int .i64 N, .slice (some ⟨g4, 0, none⟩) r.length d4] 75)) pl N r := HGL.out.chg (((Chg.refl (fun _ => False) W3).drew.trans hc2 (fun _ x => x.elim)).alloc _) (fun _ x => x)
        rename_i hheld
        clear hheld hF hg hc2 hgs HCC HGL
        generalize w4.alloc (.cells #[.int .i64 N, .slice (some ⟨g4, 0, none⟩) r.length d4] 75) = W5 at hcg5 hgo hgl5 ⊢
        generalize w4.heap.size = po at hgo ⊢
        have HC5 := Lib.hid hcg5; have HGO := Lib.hid hgo; have HGL := Lib.hid hgl5
        clear hcg5 hgo hgl5 HC3
        go_wp2_with fail
        refine (bridge_any N (f :: r) _ cap b off p 0 W5 HV.out (HS.out.chg HC5.out (fun x => x)) (.inr rfl) (HG.out.chg HC5.out (fun x => x)) (by simp)).mono ?_
        rintro e w6 ⟨rfl, hc6⟩
        have HC6 := Lib.hid (HC5.out.trans hc6 (fun _ x => x.elim)); have HGO6 := Lib.hid (HGO.out.chg hc6 (fun _ x => x)); have HGL6 := Lib.hid (HGL.out.chg hc6 (fun _ x => x))
        clear hc6 HC5 HGO HGL
        cases hbr : bridgeB N (f :: r) 0 with
        | true =>
          have HPV := Lib.hid (show polyV N (m + 1) (f :: r) = xrows (polyV N m (r.map (closeFe f))) 15 by rw [polyV, if_neg HAB.out, if_pos hbr])
          clear hbr
          go_wp2_with fail
          refine (HIH.out (r.map (closeFe f)) po w6 (by simp) HV.out.closed HGO6.out).mono ?_
          rintro e w7 ⟨p7, rfl, hp7, hc7⟩
          have HP7 := Lib.hid hp7; have HC7 := Lib.hid (HC6.out.trans hc7 (fun _ x => x.elim))
          clear hp7 hc7
          go_wp2_with fail
          refine (timesX_any _ p7 w7 HP7.out).mono ?_
          rintro e w8 ⟨p8, rfl, hp8, hc8⟩
          have HP8 := Lib.hid hp8; have HC8 := Lib.hid (HC7.out.trans hc8 (fun _ x => x.elim))
          clear hp8 hc8
          go_wp2_with fail
          go_ret
          exact ⟨p8, rfl, by rw [HPV.out]; exact HP8.out, HC8.out⟩
        | false =>
          have HPV := Lib.hid (show polyV N (m + 1) (f :: r) = plusTo (polyV N m r) (polyV N m (r.map (closeFe f))) 225 by rw [polyV, if_neg HAB.out, if_neg (by rw [hbr]; simp)])
          clear hbr
          have q1 := (HG.out.chg HC6.out (fun x => x)).2
          have hlt : decide ((r.length : Int) + 1 < 11) = true := by rw [decide_eq_true_eq]; omega
          go_wp2_with fail
          refine (HIH.out r pl w6 rfl HV.out.tail HGL6.out).mono ?_
          rintro e w7 ⟨p7, rfl, hp7, hc7⟩
          have HP7 := Lib.hid hp7; have HC7 := Lib.hid (HC6.out.trans hc7 (fun _ x => x.elim)); have HGO7 := Lib.hid (HGO6.out.chg hc7 (fun _ x => x))
          clear hp7 hc7 q1 hlt
          go_wp2_with fail
          refine (HIH.out (r.map (closeFe f)) po w7 (by simp) HV.out.closed HGO7.out).mono ?_
          rintro e w8 ⟨p8, rfl, hp8, hc8⟩
          have HP8 := Lib.hid hp8; have HC8 := Lib.hid (HC7.out.trans hc8 (fun _ x => x.elim)); have HP78 := Lib.hid (show PolyAt w8 p7 (polyV N m r) from ⟨hc8.blk HP7.out.1 (fun x => x), HP7.out.2⟩)
          clear hp8 hc8
          go_wp2_with fail
          refine (plus_any _ _ p7 p8 w8 HP78.out HP8.out (polyV_small N m r (by omega)) (polyV_small N m _ (by omega))).mono ?_
          rintro e w9 ⟨p9, rfl, hp9, hc9⟩
          have HP9 := Lib.hid hp9; have HC9 := Lib.hid (HC8.out.trans hc9 (fun _ x => x.elim))
          clear hp9 hc9
          go_wp2_with fail
          go_ret
          exact ⟨p9, rfl, by rw [HPV.out]; exact HP9.out, HC9.out⟩

theorem polynomial_any (N : Nat) : ∀ (m : Nat) (l : List Fe) (p : Nat) (w : World), l.length = m → m ≤ 10 → Valid N l → GF w p N l → Calls Try.prog 25 #[.pointer (some ⟨p, 0, none⟩)] w (PPost (polyV N m l) w)
  | 0, l, p, w, hl, hm, hv, hg => by
    obtain rfl : l = [] := List.length_eq_zero_iff.1 hl
    obtain ⟨a, cap, b, off, _, _, h⟩ := hg.ex
    rw [polyV]
    exact poly_nil N p cap a w h
  | m + 1, [], p, w, hl, hm, hv, hg => by simp at hl
  | m + 1, f :: r, p, w, hl, hm, hv, hg => by
    simp only [List.length_cons, Nat.add_right_cancel_iff] at hl
    exact poly_cons N m f r p w hv (by omega) hl.symm hg fun l p w h1 h2 h3 => polynomial_any N m l p w (by omega) (by omega) h2 h3

end Go.Proofs.Ytmmpdfcnenljhaa
