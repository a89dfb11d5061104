/- Texts on the vines, laid together (V72, V73, V74, V75, V76, V77, V78, V79). Their conditions are their premises. -/
import Derived.Test.YtilacamhjibneaaDoorK2
import Derived.Test.YtilacamhjibneaaDoorK7
import Derived.Test.YtilacamhjibneaaDoorK4
set_option linter.unusedVariables false
/- From where one comes to where, in one year or more: the closure by stages. Plain facts. Their conditions are their premises. -/
namespace Go.Proofs.YtilacamhjibneaaDoor
open Go.RowKit

def upd (B : Nat → Nat → Bool) (p q : Nat) (v : Bool) : Nat → Nat → Bool := fun x y => if x = p ∧ y = q then v else B x y
/-- One entry of a stage. -/
def fwE (B : Nat → Nat → Bool) (k p q : Nat) : Bool := B p q || (B p k && B k q)
def fwQ (B : Nat → Nat → Bool) (k p : Nat) : Nat → Nat → Nat → Bool
  | 0 => B
  | q + 1 => upd (fwQ B k p q) p q (fwE (fwQ B k p q) k p q)
def fwP (n : Nat) (B : Nat → Nat → Bool) (k : Nat) : Nat → Nat → Nat → Bool
  | 0 => B
  | p + 1 => fwQ (fwP n B k p) k p n
def fwK (n : Nat) (B : Nat → Nat → Bool) : Nat → Nat → Nat → Bool
  | 0 => B
  | k + 1 => fwP n (fwK n B k) k n
def stepB (V : List (List Nat)) (p q : Nat) : Bool := decide (q ∈ part V p)
def reachB (V : List (List Nat)) : Nat → Nat → Bool := fwK V.length (stepB V) V.length

theorem upd_mono {B : Nat → Nat → Bool} {p q : Nat} {v : Bool} (h : B p q = true → v = true) {x y : Nat} (hb : B x y = true) : upd B p q v x y = true := by
  unfold upd
  split
  · rename_i e; obtain ⟨rfl, rfl⟩ := e; exact h hb
  · exact hb
theorem fwE_mono {B : Nat → Nat → Bool} {k p q : Nat} (h : B p q = true) : fwE B k p q = true := by unfold fwE; rw [h]; rfl
theorem fwQ_mono {B : Nat → Nat → Bool} {k p : Nat} {x y : Nat} (h : B x y = true) : ∀ q, fwQ B k p q x y = true
  | 0 => h
  | q + 1 => by rw [fwQ]; exact upd_mono fwE_mono (fwQ_mono h q)
theorem fwQ_le {B : Nat → Nat → Bool} {k p x y : Nat} : ∀ {q q' : Nat}, q ≤ q' → fwQ B k p q x y = true → fwQ B k p q' x y = true
  | q, 0, h, hb => by
    obtain rfl : q = 0 := by omega
    exact hb
  | q, q' + 1, h, hb => by
    by_cases hq : q = q' + 1
    · subst hq; exact hb
    · rw [fwQ]; exact upd_mono fwE_mono (fwQ_le (by omega) hb)
theorem fwQ_done {B : Nat → Nat → Bool} {k p q q0 : Nat} (hq : q < q0) (h1 : B p k = true) (h2 : B k q = true) : fwQ B k p q0 p q = true := by
  refine fwQ_le (q := q + 1) hq ?_
  rw [fwQ]
  unfold upd
  rw [if_pos ⟨rfl, rfl⟩]
  unfold fwE
  rw [fwQ_mono h1 q, fwQ_mono h2 q]
  simp
theorem fwP_mono {n : Nat} {B : Nat → Nat → Bool} {k : Nat} {x y : Nat} (h : B x y = true) : ∀ p, fwP n B k p x y = true
  | 0 => h
  | p + 1 => by rw [fwP]; exact fwQ_mono (fwP_mono h p) n
theorem fwP_le {n : Nat} {B : Nat → Nat → Bool} {k x y : Nat} : ∀ {p p' : Nat}, p ≤ p' → fwP n B k p x y = true → fwP n B k p' x y = true
  | p, 0, h, hb => by
    obtain rfl : p = 0 := by omega
    exact hb
  | p, p' + 1, h, hb => by
    by_cases hp : p = p' + 1
    · subst hp; exact hb
    · rw [fwP]; exact fwQ_mono (fwP_le (by omega) hb) n
theorem fwP_done {n : Nat} {B : Nat → Nat → Bool} {k p q p0 : Nat} (hp : p < p0) (hq : q < n) (h1 : B p k = true) (h2 : B k q = true) : fwP n B k p0 p q = true := by
  refine fwP_le (p := p + 1) hp ?_
  rw [fwP]
  exact fwQ_done hq (fwP_mono h1 p) (fwP_mono h2 p)
/-- The closure over what lies below k. -/
def Rk (V : List (List Nat)) : Nat → Nat → Nat → Prop
  | 0, p, q => q ∈ part V p
  | k + 1, p, q => Rk V k p q ∨ (Rk V k p k ∧ Rk V k k q)
theorem Rk_trans {V : List (List Nat)} : ∀ (k p m q : Nat), m < k → Rk V k p m → Rk V k m q → Rk V k p q
  | 0, _, _, _, h, _, _ => by omega
  | k + 1, p, m, q, hm, h1, h2 => by
    by_cases hmk : m = k
    · subst hmk
      have a1 : Rk V m p m := h1.elim id (fun h => h.1)
      have a2 : Rk V m m q := h2.elim id (fun h => h.2)
      exact .inr ⟨a1, a2⟩
    · have hlt : m < k := by omega
      rcases h1 with h1 | ⟨h1, h1'⟩
      · rcases h2 with h2 | ⟨h2, h2'⟩
        · exact .inl (Rk_trans k p m q hlt h1 h2)
        · exact .inr ⟨Rk_trans k p m k hlt h1 h2, h2'⟩
      · rcases h2 with h2 | ⟨h2, h2'⟩
        · exact .inr ⟨h1, Rk_trans k k m q hlt h1' h2⟩
        · exact .inr ⟨h1, h2'⟩
theorem Rk_mono {V : List (List Nat)} {p q : Nat} (h : q ∈ part V p) : ∀ k, Rk V k p q
  | 0 => h
  | k + 1 => .inl (Rk_mono h k)
theorem fwK_ge {V : List (List Nat)} : ∀ k, k ≤ V.length → ∀ p q, p < V.length → q < V.length → Rk V k p q → fwK V.length (stepB V) k p q = true
  | 0, _, p, q, hp, hq, h => by
    show decide _ = true
    rw [decide_eq_true_eq]
    exact h
  | k + 1, hk, p, q, hp, hq, h => by
    rw [fwK]
    rcases h with h | ⟨h1, h2⟩
    · exact fwP_mono (fwK_ge k (by omega) p q hp hq h) _
    · exact fwP_done hp hq (fwK_ge k (by omega) p k hp (by omega) h1) (fwK_ge k (by omega) k q (by omega) hq h2)
/-- In one year or more. -/
def TC (V : List (List Nat)) (p q : Nat) : Prop := ∃ c ∈ part V p, Path V c q
theorem TC.trans {V : List (List Nat)} {p k q : Nat} (h1 : TC V p k) (h2 : TC V k q) : TC V p q := by
  obtain ⟨c, hc, h1⟩ := h1
  obtain ⟨d, hd, h2⟩ := h2
  exact ⟨c, hc, (h1.step hd).trans h2⟩
theorem upd_sound {V : List (List Nat)} {B : Nat → Nat → Bool} (h : ∀ x y, B x y = true → TC V x y) (k p q : Nat) : ∀ x y, upd B p q (fwE B k p q) x y = true → TC V x y := fun x y hb => by
  unfold upd at hb
  split at hb
  · rename_i e
    obtain ⟨rfl, rfl⟩ := e
    unfold fwE at hb
    rw [Bool.or_eq_true, Bool.and_eq_true] at hb
    rcases hb with hb | ⟨h1, h2⟩
    · exact h _ _ hb
    · exact (h _ _ h1).trans (h _ _ h2)
  · exact h _ _ hb
theorem fwQ_sound {V : List (List Nat)} {B : Nat → Nat → Bool} (h : ∀ x y, B x y = true → TC V x y) (k p : Nat) : ∀ q x y, fwQ B k p q x y = true → TC V x y
  | 0 => h
  | q + 1 => upd_sound (fwQ_sound h k p q) k p q
theorem fwP_sound {V : List (List Nat)} {B : Nat → Nat → Bool} (h : ∀ x y, B x y = true → TC V x y) (n k : Nat) : ∀ p x y, fwP n B k p x y = true → TC V x y
  | 0 => h
  | p + 1 => fwQ_sound (fwP_sound h n k p) k p n
theorem fwK_sound {V : List (List Nat)} {B : Nat → Nat → Bool} (h : ∀ x y, B x y = true → TC V x y) (n : Nat) : ∀ k x y, fwK n B k x y = true → TC V x y
  | 0 => h
  | k + 1 => fwP_sound (fwK_sound h n k) n k n
theorem Path.lt {V : List (List Nat)} (hV : WF V) {i j : Nat} (h : Path V i j) (hi : i < V.length) : j < V.length := by
  induction h with
  | refl => exact hi
  | step _ hc _ => exact (hV.part_le _).2 _ hc
theorem reach_iff {V : List (List Nat)} (hV : WF V) {p q : Nat} (hp : p < V.length) (hq : q < V.length) : reachB V p q = true ↔ TC V p q := by
  constructor
  · exact fwK_sound (fun x y h => ⟨y, by simpa [stepB] using h, .refl⟩) _ _ p q
  · rintro ⟨c, hc, h⟩
    refine fwK_ge V.length (Nat.le_refl _) p q hp hq ?_
    have hcl := (hV.part_le p).2 c hc
    clear hq
    induction h with
    | refl => exact Rk_mono hc _
    | @step j d h1 hd ih => exact Rk_trans _ _ j _ (h1.lt hV hcl) ih (Rk_mono hd _)
/-- From a part to another one, or to itself again. -/
theorem reach_cm {V : List (List Nat)} (hV : WF V) {i j : Nat} (hi : i < V.length) (hj : j < V.length) : cm (comesM V) i j = (decide (j = i) || reachB V i j) := by
  rw [Bool.eq_iff_iff, cm_iff hV hi, Bool.or_eq_true, decide_eq_true_eq, reach_iff hV hi hj]
  constructor
  · intro h
    -- the first step of the way
    have key : ∀ {j}, Path V i j → j = i ∨ TC V i j := by
      intro j h
      induction h with
      | refl => exact .inl rfl
      | @step j d h1 hd ih =>
        rcases ih with rfl | ⟨c, hc, h2⟩
        · exact .inr ⟨d, hd, .refl⟩
        · exact .inr ⟨c, hc, h2.step hd⟩
    exact key h
  · rintro (rfl | ⟨c, hc, h⟩)
    · exact .refl
    · exact (Path.refl.step hc).trans h
theorem dn_reach {V : List (List Nat)} (hV : WF V) {i j : Nat} (hi : i < V.length) (hj : j < V.length) : dn V i j = (reachB V i j && !reachB V j i) := by
  unfold dn
  rw [reach_cm hV hi hj, reach_cm hV hj hi]
  by_cases h : j = i
  · subst h; simp
  · have h' : ¬ i = j := fun e => h e.symm
    simp [h, h']
theorem bkF_pos {V : List (List Nat)} {i : Nat} (p : List Nat) : ∀ k, k ≤ p.length → (0 < bkF V i p k ↔ ∃ c ∈ p.take k, cm (comesM V) c i = true)
  | 0, _ => by simp [bkF]
  | k + 1, hk => by
    have ih := bkF_pos (V := V) (i := i) p k (by omega)
    have ht : p.take (k + 1) = p.take k ++ [at0 p k] := by
      rw [at0_lt_of (by omega)]
      exact (List.take_append_getElem (by omega)).symm
    rw [bkF, ht]
    by_cases h : cm (comesM V) (at0 p k) i = true
    · rw [if_pos h]
      exact ⟨fun _ => ⟨_, by simp, h⟩, fun _ => by omega⟩
    · rw [if_neg h, ih]
      constructor
      · rintro ⟨c, hc, h2⟩; exact ⟨c, by simp [hc], h2⟩
      · rintro ⟨c, hc, h2⟩
        rcases List.mem_append.1 hc with hc | hc
        · exact ⟨c, hc, h2⟩
        · simp at hc
          subst hc
          exact absurd h2 h
theorem back_reach {V : List (List Nat)} (hV : WF V) {i : Nat} (hi : i < V.length) : 0 < backV V i ↔ reachB V i i = true := by
  unfold backV
  rw [bkF_pos _ _ (Nat.le_refl _), List.take_length, reach_iff hV hi hi]
  constructor
  · rintro ⟨c, hc, h⟩
    exact ⟨c, hc, (cm_iff hV ((hV.part_le i).2 c hc) i).1 h⟩
  · rintro ⟨c, hc, h⟩
    exact ⟨c, hc, (cm_iff hV ((hV.part_le i).2 c hc) i).2 h⟩
end Go.Proofs.YtilacamhjibneaaDoor

/- reach of the reference, walked. Its conditions are its premises. -/
namespace Go.Proofs.YtilacamhjibneaaDoor
open Go.RowKit

def rowB (n : Nat) (B : Nat → Nat → Bool) (y : Nat) : List Bool := (List.range n).map (B y)
theorem rowB_len (n : Nat) (B : Nat → Nat → Bool) (y : Nat) : (rowB n B y).length = n := by simp [rowB]
theorem rowB_at {n : Nat} (B : Nat → Nat → Bool) (y : Nat) {j : Nat} (h : j < n) : (bv (rowB n B y))[j]? = some (.bool (B y j)) := by
  unfold bv rowB
  rw [List.getElem?_map, List.getElem?_map, List.getElem?_range h]
  rfl
theorem rowB_upd {n : Nat} (B : Nat → Nat → Bool) (p q : Nat) (v : Bool) (hq : q < n) (y : Nat) : bv (rowB n (upd B p q v) y) = if y = p then (bv (rowB n B p)).set q (.bool v) else bv (rowB n B y) := by
  by_cases hy : y = p
  · subst hy
    rw [if_pos rfl]
    refine List.ext_getElem (by simp [bv, rowB]) (fun j h1 h2 => ?_)
    have hj : j < n := by simpa [bv, rowB] using h1
    rw [List.getElem_set]
    simp only [bv, rowB, List.getElem_map, List.getElem_range, upd]
    by_cases hjq : q = j
    · subst hjq; simp
    · have : ¬ j = q := fun e => hjq e.symm
      rw [if_neg hjq, if_neg (fun e => this e.2)]
  · rw [if_neg hy]
    unfold rowB upd
    congr 1
    refine List.map_congr_left (fun j _ => ?_)
    rw [if_neg (fun e => hy e.1)]
def rowI (n : Nat) (p : List Nat) (i : Nat) : List Bool := (List.range n).map fun q => decide (q ∈ p.take i)
theorem rowI_zero (n : Nat) (p : List Nat) : rowI n p 0 = List.replicate n false := by
  unfold rowI
  rw [List.map_congr_left (g := fun _ => false) (fun j _ => by simp), List.map_const']
  simp
theorem rowI_next (n : Nat) (p : List Nat) {i : Nat} (h : i < p.length) : (rowI n p i).set p[i] true = rowI n p (i + 1) := by
  refine List.ext_getElem (by simp [rowI]) (fun j h1 h2 => ?_)
  have ht : p.take (i + 1) = p.take i ++ [p[i]] := (List.take_append_getElem h).symm
  have key : ∀ j, (j ∈ p.take (i + 1)) ↔ (j ∈ p.take i ∨ j = p[i]) := fun j => by rw [ht, List.mem_append, List.mem_singleton]
  rw [List.getElem_set]
  simp only [rowI, List.getElem_map, List.getElem_range, key]
  by_cases hj : p[i] = j
  · subst hj; simp
  · rw [if_neg hj]
    have : ¬ j = p[i] := fun e => hj e.symm
    simp [this]
theorem rowI_done (V : List (List Nat)) (p : Nat) : rowI V.length (part V p) (part V p).length = rowB V.length (stepB V) p := by
  unfold rowI rowB stepB
  rw [List.take_length]

theorem wanted_none {o : Oper} {y : Nat → Option Bool} (h : o.guard = none) : Region.wanted o y = true := by simp [Region.wanted, h]
theorem wanted_some {o : Oper} {y : Nat → Option Bool} {j : Nat} {b c : Bool} (h : o.guard = some (j, b)) (hy : y j = some c) : Region.wanted o y = (c == b) := by
  simp [Region.wanted, h, hy]
theorem wanted_undef {o : Oper} {y : Nat → Option Bool} {j : Nat} {b : Bool} (h : o.guard = some (j, b)) (hy : y j = none) : Region.wanted o y = false := by
  simp [Region.wanted, h, hy]
theorem wpStill_skip {P : Program} {ops : Array Oper} {w : World} {Q : Act → Prop} {a : Act} {o : Oper} {rest : List Oper} (h : Region.wanted o (yielded ops a.tmps) = false) (hk : wpStill P ops w Q rest (a.put o.dst undef)) : wpStill P ops w Q (o :: rest) a := by
  rw [wpStill, h]
  exact hk
theorem still_abs {P : Program} {ops : Array Oper} {w : World} {Q : Act → Prop} {l : List Oper} {a : Act}
    (h : ∀ W : List Oper → Act → Prop, (∀ o rest a, Region.wanted o (yielded ops a.tmps) = true → (∀ K : Act → Prop, (∀ a, W rest a → K a) → o.still P a w K) → W (o :: rest) a) →
      (∀ o rest a, Region.wanted o (yielded ops a.tmps) = false → W rest (a.put o.dst undef) → W (o :: rest) a) → (∀ a, Q a → W [] a) → W l a) : wpStill P ops w Q l a :=
  h (wpStill P ops w Q) (fun o rest a h1 h2 => by rw [wpStill, h1]; exact h2 _ (fun _ h => h)) (fun o rest a h1 h2 => by rw [wpStill, h1]; exact h2) (fun a h => h)
theorem wpStill_want {P : Program} {ops : Array Oper} {w : World} {Q : Act → Prop} {a : Act} {o : Oper} {rest : List Oper} (h : Region.wanted o (yielded ops a.tmps) = true) (hk : ∀ K : Act → Prop, (∀ a, wpStill P ops w Q rest a → K a) → o.still P a w K) : wpStill P ops w Q (o :: rest) a := by
  rw [wpStill, h]
  exact hk _ (fun _ h => h)
/-- The matrix as it is read. -/
def RAt (w : World) (rb n : Nat) (B : Nat → Nat → Bool) : Prop := ∀ i, i < n → ∃ g c, w.cell? ⟨rb, i, none⟩ = some (.slice (some ⟨g, 0, none⟩) n c) ∧ ∀ j, j < n → w.cell? ⟨g, j, none⟩ = some (.bool (B i j))
theorem RAt.chg {w w' : World} {rb n : Nat} {B : Nat → Nat → Bool} (h : RAt w rb n B) (hc : Chg (fun _ => False) w w') : RAt w' rb n B := fun i hi => by
  obtain ⟨g, c, h1, h2⟩ := h i hi
  exact ⟨g, c, hc.cell_some h1 (fun x => x), fun j hj => hc.cell_some (h2 j hj) (fun x => x)⟩

set_option maxRecDepth 100000 in
set_option maxHeartbeats 1000000 in
theorem reach_any (V : List (List Nat)) (hV : WF V) (b off cap : Nat) (w : World) (hv : VAt w b off V) :
    Calls Tryd.prog 62 #[.slice (some ⟨b, off, none⟩) V.length cap] w fun e w' => (∃ g c, e = .returned (.slice (some ⟨g, 0, none⟩) V.length c) ∧ RAt w' g V.length (reachB V)) ∧ Chg (fun _ => False) w w' := by
  have hn6 := hV.le
  have hn1 := hV.pos
  have hmk := make_bools V.length (by omega)
  have HV := Lib.hid hv; have HWF := Lib.hid hV
  clear hv hV
  go_enter Tryd.func62, Tryd.ntmps62
  go_wp2_with fail
  go_loopg [4, 3] V.length (fun gm pv ov wr => ∃ (p : Nat) (G : List Nat), p ≤ V.length ∧ gm = V.length - p ∧ pv = .int .i64 p ∧ G.length = p ∧ RG w wr 77 4 V.length (fun y => bv (rowB V.length (stepB V) y)) ov G)
  case atStart => exact ⟨0, [], by omega, by omega, rfl, rfl, World.ownsRow_nil w _ 77 1, fun y hy => by simp at hy, fun y z hy => by simp at hy, Chg.refl _ _⟩
  case round =>
    obtain ⟨p, G, hp, rfl, rfl, hG, hrg⟩ := hrel
    have HG := Lib.hid hG; have HRG := Lib.hid hrg
    clear hG hrg
    generalize u3 = ov at HRG ⊢
    by_cases hpn : p < V.length
    · have d0 : decide (p < V.length) = true := by simpa using hpn
      obtain ⟨rb, hrb⟩ : ∃ rb, wr.heap.size = rb := ⟨_, rfl⟩
      have HRB := Lib.hid hrb
      have HB0 := made_bools V.length wr
      rw [hrb] at HB0
      have HBK0 : Hid (Blk (wr.alloc (.cells (Array.replicate V.length (.bool false)) 4)) rb 4 (bv (rowI V.length (part V p) 0))) := Lib.hid (by rw [rowI_zero]; exact HB0)
      have HC0 := Lib.hid ((Chg.refl (fun _ => False) wr).alloc (.cells (Array.replicate V.length (.bool false)) 4))
      go_wp2_with fail
      clear HB0
      clear hrb
      obtain ⟨wo, hwo⟩ : ∃ wo : World, wo = wr := ⟨_, rfl⟩
      rw [← hwo] at HRG HRB HC0 HBK0 ⊢
      clear hwo
      generalize wo.alloc (.cells (Array.replicate V.length (.bool false)) 4) = W0 at HC0 HBK0 ⊢
      have hp8 := (HWF.out.part_le p).1
      have HP := Lib.hid (HWF.out.part_le p).2
      go_loopg [6] (part V p).length (fun gm iv wr => ∃ i : Nat, i ≤ (part V p).length ∧ gm = (part V p).length - i ∧ iv = .int .i64 i ∧ Blk wr rb 4 (bv (rowI V.length (part V p) i)) ∧ Chg (fun _ => False) wo wr)
      case atStart => exact ⟨0, by omega, by omega, rfl, HBK0.out, HC0.out⟩
      case round =>
        clear HBK0 HC0
        obtain ⟨i, hi, rfl, rfl, hbk, hc⟩ := hrel
        have HBK := Lib.hid hbk; have HC := Lib.hid hc
        clear hbk hc
        have c0 := (HV.out.chg (HRG.out.chg.trans HC.out (fun _ x => x.elim)) (fun x => x)) p hpn
        rw [← part_lt hpn] at c0
        have hsz := str_size (part V p)
        by_cases hil : i < (part V p).length
        · have d3 : decide (i < (part V p).length) = true := by simpa using hil
          have hcn := HP.out _ (List.getElem_mem hil)
          have hidx := index_chr hil (by omega)
          have hu8 := u8_chr (part V p)[i] (by omega)
          have HNX := Lib.hid (rowI_next V.length (part V p) hil)
          have f1 := fun j => HBK.out.free j
          have s1 : ∀ j, j < V.length → ∃ u, wr.cell? ⟨rb, j, none⟩ = some u := fun j hj => ⟨_, HBK.out.cell_some (i := j) (by unfold bv rowI; rw [List.getElem?_map, List.getElem?_map, List.getElem?_range hj]; rfl)⟩
          obtain ⟨u0, hu0⟩ := s1 _ hcn
          obtain ⟨d, hd⟩ : ∃ d, (part V p)[i] = d := ⟨_, rfl⟩
          rw [hd] at hcn hu8 HNX hu0
          simp only [hd] at hidx
          have f2 := f1 d
          clear hd s1 f1
          go_wp2_with fail
          go_roundg ((part V p).length - (i + 1))
          case measure => omega
          case rel => exact ⟨i + 1, by omega, rfl, by go_num, by rw [← HNX.out, bv_set]; exact HBK.out.set d _, HC.out.setCell (.inr (by rw [HRB.out]; exact Nat.le_refl _)) _⟩
        · obtain rfl : i = (part V p).length := by omega
          have d3 : decide ((part V p).length < (part V p).length) = false := by simp
          rw [rowI_done] at HBK
          obtain ⟨g3, hg3⟩ : ∃ g3, wr.heap.size = g3 := ⟨_, rfl⟩
          have HA := Lib.hid (HRG.out.kept (HC.out.trans ((Chg.refl (fun _ => False) wr).alloc (.cells #[rv V.length rb] 77)) (fun _ x => x.elim)))
          have HX := Lib.hid ((Blk.new wr #[rv V.length rb] 77).cell_some (i := 0) rfl)
          rw [hg3] at HX
          have HBA := Lib.hid (HBK.out.alloc (.cells #[rv V.length rb] 77))
          have HNW := Lib.hid (show ∀ y (hy : y < G.length), G[y] ≠ rb from fun y hy e => by
            have h1 := (HRG.out.rows y hy).1.lt
            have h2 := HRB.out
            omega)
          have HNE := Lib.hid (show ov.ownBlock ≠ some rb from fun e => by
            have h1 := (HRG.out.own.lt rb e).2
            have h2 := HRB.out
            omega)
          have HW0 := Lib.hid (show w.heap.size ≤ rb by rw [← HRB.out]; exact HRG.out.chg.size)
          unfold rv at HX
          go_wp2_with (at_builtin; refine wpList_rg rfl (.tmp 38) (.tmp 40) 75 77 rfl Tryd.underlying75 info77 (rb := rb) (g3 := g3) HA.out (by simp [Act.eval]) (by simp [Act.eval]) HX.out (by rw [HG.out]; exact HBA.out) HNW.out HNE.out HW0.out (by rw [HG.out]; omega) ?_; intro v' w2 hrg2)
          have HR2 := Lib.hid hrg2
          clear hrg2 hg3
          go_roundg (V.length - (p + 1))
          case measure => omega
          case rel => exact ⟨p + 1, G ++ [rb], by omega, rfl, by go_num, by rw [List.length_append, HG.out]; rfl, HR2.out⟩
    · obtain rfl : p = V.length := by omega
      obtain ⟨og, oc, rfl, _, hor⟩ := HRG.out.form (by rw [HG.out]; omega)
      rw [HG.out]
      go_wp2_with fail
      go_loopg [7] V.length (fun gm kv wr => ∃ k : Nat, k ≤ V.length ∧ gm = V.length - k ∧ kv = .int .i64 k ∧ RG w wr 77 4 V.length (fun y => bv (rowB V.length (fwK V.length (stepB V) k) y)) (.slice (some ⟨og, 0, none⟩) V.length oc) G)
      case atStart => exact ⟨0, by omega, by omega, rfl, by have h := HRG.out; rw [HG.out] at h; exact h⟩
      case round =>
        clear hor HRG
        obtain ⟨k, hk, rfl, rfl, hrg⟩ := hrel
        have HRG := Lib.hid hrg
        clear hrg
        by_cases hkn : k < V.length
        · have d1 : decide (k < V.length) = true := by simpa using hkn
          have HKN := Lib.hid (show fwK V.length (stepB V) (k + 1) = fwP V.length (fwK V.length (stepB V) k) k V.length from rfl)
          obtain ⟨B, hB⟩ : ∃ B, fwK V.length (stepB V) k = B := ⟨_, rfl⟩
          rw [hB] at HRG HKN
          clear hB
          go_wp2_with fail
          go_loopg [8] V.length (fun gm pv wr => ∃ p : Nat, p ≤ V.length ∧ gm = V.length - p ∧ pv = .int .i64 p ∧ RG w wr 77 4 V.length (fun y => bv (rowB V.length (fwP V.length B k p) y)) (.slice (some ⟨og, 0, none⟩) V.length oc) G)
          case atStart => exact ⟨0, by omega, by omega, rfl, HRG.out⟩
          case round =>
            clear HRG
            obtain ⟨p, hp, rfl, rfl, hrg⟩ := hrel
            have HRG := Lib.hid hrg
            clear hrg
            by_cases hpn : p < V.length
            · have d2 : decide (p < V.length) = true := by simpa using hpn
              have HPN := Lib.hid (show fwP V.length B k (p + 1) = fwQ (fwP V.length B k p) k p V.length from rfl)
              obtain ⟨C, hC⟩ : ∃ C, fwP V.length B k p = C := ⟨_, rfl⟩
              rw [hC] at HRG HPN
              clear hC
              go_wp2_with fail
              go_loopg [9] V.length (fun gm qv wr => ∃ q : Nat, q ≤ V.length ∧ gm = V.length - q ∧ qv = .int .i64 q ∧ RG w wr 77 4 V.length (fun y => bv (rowB V.length (fwQ C k p q) y)) (.slice (some ⟨og, 0, none⟩) V.length oc) G)
              case atStart => exact ⟨0, by omega, by omega, rfl, HRG.out⟩
              case round =>
                clear HRG
                obtain ⟨q, hq, rfl, rfl, hrg⟩ := hrel
                have HRG := Lib.hid hrg
                clear hrg
                by_cases hqn : q < V.length
                · have d3 : decide (q < V.length) = true := by simpa using hqn
                  have HQN := Lib.hid (show fwQ C k p (q + 1) = upd (fwQ C k p q) p q (fwE (fwQ C k p q) k p q) from rfl)
                  obtain ⟨D, hD⟩ : ∃ D, fwQ C k p q = D := ⟨_, rfl⟩
                  rw [hD] at HRG HQN
                  clear hD
                  have hpG : p < G.length := by rw [HG.out]; exact hpn
                  have hkG : k < G.length := by rw [HG.out]; exact hkn
                  obtain ⟨og', oc', ho', _, hor⟩ := HRG.out.form (by omega)
                  rw [HG.out] at ho'
                  obtain ⟨rfl, rfl⟩ : og' = og ∧ oc' = oc := by
                    simp at ho'
                    exact ⟨ho'.1.symm, ho'.2.symm⟩
                  have r1 := hor p hpG
                  have r2 := hor k hkG
                  unfold rv at r1 r2
                  have e1 := (HRG.out.rows p hpG).1.cell_some (rowB_at D p hqn)
                  have e2 := (HRG.out.rows p hpG).1.cell_some (rowB_at D p hkn)
                  have e3 := (HRG.out.rows k hkG).1.cell_some (rowB_at D k hqn)
                  have f1 := (HRG.out.rows p hpG).1.free q
                  have HST := Lib.hid (fun x => HRG.out.set hpG q x)
                  have HEV := Lib.hid (show fwE D k p q = (D p q || (D p k && D k q)) from rfl)
                  obtain ⟨g1, hg1⟩ : ∃ g1, G[p] = g1 := ⟨_, rfl⟩
                  obtain ⟨g2, hg2⟩ : ∃ g2, G[k] = g2 := ⟨_, rfl⟩
                  rw [hg1] at r1 e1 e2 f1
                  simp only [hg1] at HST
                  rw [hg2] at r2 e3
                  obtain ⟨x, hx⟩ : ∃ x, D p q = x := ⟨_, rfl⟩
                  obtain ⟨y, hy⟩ : ∃ y, D p k = y := ⟨_, rfl⟩
                  obtain ⟨z, hz⟩ : ∃ z, D k q = z := ⟨_, rfl⟩
                  rw [hx] at e1 HEV
                  rw [hy] at e2 HEV
                  rw [hz] at e3 HEV
                  clear hor hg1 hg2 hx hy hz ho'
                  go_wp2_with fail
                  have HKD := Lib.hid ((Chg.refl (fun _ => False) wr).drew)
                  cases x with
                  | true =>
                    refine wp_region_still_tail 31 (by kernel_rfl) (by kernel_rfl) ?_
                    simp only [List.take_succ_cons, List.take_zero, List.drop_succ_cons, List.drop_zero]
                    refine still_abs (fun W hwant hskip hnil => ?_)
                    iterate 13 (refine hwant _ _ _ (wanted_none rfl) (fun K hK => ?_); go_simp; refine hK _ ?_; clear hK K)
                    iterate 8 (refine hskip _ _ _ (wanted_some (b := false) (c := true) rfl (by kernel_rfl)) ?_; simp only [Act.put, List.setIfInBounds_toArray, List.set_cons_zero, List.set_cons_succ])
                    iterate 7 (refine hskip _ _ _ (wanted_undef rfl (by kernel_rfl)) ?_; simp only [Act.put, List.setIfInBounds_toArray, List.set_cons_zero, List.set_cons_succ])
                    iterate 1 (refine hskip _ _ _ (wanted_some (b := false) (c := true) rfl (by kernel_rfl)) ?_; simp only [Act.put, List.setIfInBounds_toArray, List.set_cons_zero, List.set_cons_succ])
                    iterate 2 (refine hwant _ _ _ (wanted_none rfl) (fun K hK => ?_); go_simp; refine hK _ ?_; clear hK K)
                    refine hnil _ ?_
                    clear hwant hskip hnil W
                    change wpList _ _ _ _ _ wr.drew
                    have e4 := HKD.out.cell_some e1 (fun x => x)
                    have f4 : wr.drew.frozen? ⟨g1, q, none⟩ = false := f1
                    have HDD := Lib.hid (fun v => (HST.out v))
                    clear r1 r2 e1 e2 e3 f1 HKD HST
                    generalize hwd : wr.drew = W1 at e4 f4 ⊢
                    go_wp2_with fail
                    go_roundg (V.length - (q + 1))
                    case measure => omega
                    case rel =>
                      refine ⟨q + 1, by omega, rfl, by go_num, ?_⟩
                      subst hwd
                      rw [HQN.out, HEV.out]
                      exact ((HDD.out _).congr (fun y' hy' => rowB_upd D p q _ hqn y')).kept ((Chg.refl _ _).drew)
                  | false =>
                    cases y with
                    | true =>
                      refine wp_region_still_tail 31 (by kernel_rfl) (by kernel_rfl) ?_
                      simp only [List.take_succ_cons, List.take_zero, List.drop_succ_cons, List.drop_zero]
                      refine still_abs (fun W hwant hskip hnil => ?_)
                      iterate 13 (refine hwant _ _ _ (wanted_none rfl) (fun K hK => ?_); go_simp; refine hK _ ?_; clear hK K)
                      iterate 8 (refine hwant _ _ _ (wanted_some (b := false) (c := false) rfl (by kernel_rfl)) (fun K hK => ?_); go_simp; refine hK _ ?_; clear hK K)
                      iterate 7 (refine hwant _ _ _ (wanted_some (b := true) (c := true) rfl (by kernel_rfl)) (fun K hK => ?_); go_simp; refine hK _ ?_; clear hK K)
                      iterate 1 (refine hwant _ _ _ (wanted_some (b := false) (c := false) rfl (by kernel_rfl)) (fun K hK => ?_); go_simp; refine hK _ ?_; clear hK K)
                      iterate 2 (refine hwant _ _ _ (wanted_none rfl) (fun K hK => ?_); go_simp; refine hK _ ?_; clear hK K)
                      refine hnil _ ?_
                      clear hwant hskip hnil W
                      change wpList _ _ _ _ _ wr.drew
                      have e4 := HKD.out.cell_some e1 (fun x => x)
                      have f4 : wr.drew.frozen? ⟨g1, q, none⟩ = false := f1
                      have HDD := Lib.hid (fun v => (HST.out v))
                      clear r1 r2 e1 e2 e3 f1 HKD HST
                      generalize hwd : wr.drew = W1 at e4 f4 ⊢
                      go_wp2_with fail
                      go_roundg (V.length - (q + 1))
                      case measure => omega
                      case rel =>
                        refine ⟨q + 1, by omega, rfl, by go_num, ?_⟩
                        subst hwd
                        rw [HQN.out, HEV.out]
                        exact ((HDD.out _).congr (fun y' hy' => rowB_upd D p q _ hqn y')).kept ((Chg.refl _ _).drew)
                    | false =>
                      refine wp_region_still_tail 31 (by kernel_rfl) (by kernel_rfl) ?_
                      simp only [List.take_succ_cons, List.take_zero, List.drop_succ_cons, List.drop_zero]
                      refine still_abs (fun W hwant hskip hnil => ?_)
                      iterate 13 (refine hwant _ _ _ (wanted_none rfl) (fun K hK => ?_); go_simp; refine hK _ ?_; clear hK K)
                      iterate 8 (refine hwant _ _ _ (wanted_some (b := false) (c := false) rfl (by kernel_rfl)) (fun K hK => ?_); go_simp; refine hK _ ?_; clear hK K)
                      iterate 7 (refine hskip _ _ _ (wanted_some (b := true) (c := false) rfl (by kernel_rfl)) ?_; simp only [Act.put, List.setIfInBounds_toArray, List.set_cons_zero, List.set_cons_succ])
                      iterate 1 (refine hwant _ _ _ (wanted_some (b := false) (c := false) rfl (by kernel_rfl)) (fun K hK => ?_); go_simp; refine hK _ ?_; clear hK K)
                      iterate 2 (refine hwant _ _ _ (wanted_none rfl) (fun K hK => ?_); go_simp; refine hK _ ?_; clear hK K)
                      refine hnil _ ?_
                      clear hwant hskip hnil W
                      change wpList _ _ _ _ _ wr.drew
                      have e4 := HKD.out.cell_some e1 (fun x => x)
                      have f4 : wr.drew.frozen? ⟨g1, q, none⟩ = false := f1
                      have HDD := Lib.hid (fun v => (HST.out v))
                      clear r1 r2 e1 e2 e3 f1 HKD HST
                      generalize hwd : wr.drew = W1 at e4 f4 ⊢
                      go_wp2_with fail
                      go_roundg (V.length - (q + 1))
                      case measure => omega
                      case rel =>
                        refine ⟨q + 1, by omega, rfl, by go_num, ?_⟩
                        subst hwd
                        rw [HQN.out, HEV.out]
                        exact ((HDD.out _).congr (fun y' hy' => rowB_upd D p q _ hqn y')).kept ((Chg.refl _ _).drew)
                · obtain rfl : q = V.length := by omega
                  go_wp2_with fail
                  go_roundg (V.length - (p + 1))
                  case measure => omega
                  case rel => exact ⟨p + 1, by omega, rfl, by go_num, by rw [HPN.out]; exact HRG.out⟩
            · obtain rfl : p = V.length := by omega
              go_wp2_with fail
              go_roundg (V.length - (k + 1))
              case measure => omega
              case rel => exact ⟨k + 1, by omega, rfl, by go_num, by rw [HKN.out]; exact HRG.out⟩
        · obtain rfl : k = V.length := by omega
          have HFIN := Lib.hid (show RAt wr og V.length (reachB V) from fun i hi => by
            obtain ⟨og', oc', ho', _, hor⟩ := HRG.out.form (by rw [HG.out]; omega)
            rw [HG.out] at ho'
            obtain ⟨rfl, rfl⟩ : og' = og ∧ oc' = oc := by
              simp at ho'
              exact ⟨ho'.1.symm, ho'.2.symm⟩
            exact ⟨_, _, hor i (by rw [HG.out]; exact hi), fun j hj => (HRG.out.rows i (by rw [HG.out]; exact hi)).1.cell_some (rowB_at _ i hj)⟩)
          go_wp2_with fail
          go_ret
          exact ⟨⟨og, oc, rfl, HFIN.out⟩, HRG.out.chg⟩
end Go.Proofs.YtilacamhjibneaaDoor

/- again and deep of the reference, walked. Their conditions are their premises. -/
namespace Go.Proofs.YtilacamhjibneaaDoor
open Go.RowKit

set_option maxRecDepth 100000 in
set_option maxHeartbeats 1000000 in
theorem again_any (V : List (List Nat)) (hV : WF V) (i : Nat) (hi : i < V.length) (b off cap rb rc : Nat) (w : World) (hv : VAt w b off V) (hr : RAt w rb V.length (reachB V)) :
    Calls Tryd.prog 63 #[.slice (some ⟨b, off, none⟩) V.length cap, .slice (some ⟨rb, 0, none⟩) V.length rc, .int .i64 (i : Int)] w fun e w' => e = .returned (.int .i64 (backV V i : Int)) ∧ Chg (fun _ => False) w w' := by
  have hn6 := hV.le
  have HV := Lib.hid hv; have HR := Lib.hid hr; have HWF := Lib.hid hV
  have HPL := Lib.hid (hV.part_le i)
  have HBV := Lib.hid (show backV V i = bkF V i (part V i) (part V i).length from rfl)
  clear hv hr hV
  go_enter Tryd.func63, Tryd.ntmps63
  go_wp2_with fail
  go_loopg [8, 7] (part V i).length (fun gm kv sv wr => ∃ k : Nat, k ≤ (part V i).length ∧ gm = (part V i).length - k ∧ kv = .int .i64 k ∧ sv = .int .i64 (bkF V i (part V i) k) ∧ Chg (fun _ => False) w wr)
  case atStart => exact ⟨0, by omega, by omega, rfl, rfl, Chg.refl _ _⟩
  case round =>
    obtain ⟨k, hk, rfl, rfl, rfl, hc⟩ := hrel
    have HC := Lib.hid hc
    clear hc
    have c0 := (HV.out.chg HC.out (fun x => x)) i hi
    rw [← part_lt hi] at c0
    have hsz := str_size (part V i)
    have hp8 := HPL.out.1
    by_cases hkl : k < (part V i).length
    · have d3 : decide (k < (part V i).length) = true := by simpa using hkl
      have hcn := HPL.out.2 _ (List.getElem_mem hkl)
      have hidx := index_chr hkl (by omega)
      have hu8 := u8_chr (part V i)[k] (by omega)
      have hs8 := bkF_le V i (part V i) k
      have HSK := Lib.hid (show bkF V i (part V i) (k + 1) = if cm (comesM V) (part V i)[k] i = true then bkF V i (part V i) k + 1 else bkF V i (part V i) k by rw [bkF, at0_lt_of hkl])
      have HCM := Lib.hid (reach_cm HWF.out hcn hi)
      obtain ⟨c, hc⟩ : ∃ c, (part V i)[k] = c := ⟨_, rfl⟩
      rw [hc] at hcn hu8 HSK HCM
      simp only [hc] at hidx
      clear hc
      obtain ⟨g, gc, m1, m2⟩ := (HR.out.chg HC.out) c hcn
      have m3 := m2 i hi
      clear m2
      obtain ⟨x, hx⟩ : ∃ x, reachB V c i = x := ⟨_, rfl⟩
      rw [hx] at m3 HCM
      clear hx
      rw [HCM.out] at HSK
      obtain ⟨s, hs⟩ : ∃ s, bkF V i (part V i) k = s := ⟨_, rfl⟩
      rw [hs] at HSK hs8 ⊢
      clear hs
      have hws : IntKind.i64.wrap ((s : Int) + 1) = ((s + 1 : Nat) : Int) := IntWalk.i64_in _ (by omega)
      by_cases hci : c = i
      · subst hci
        rw [decide_eq_true rfl, Bool.true_or, if_pos rfl] at HSK
        go_wp2_with fail
        go_roundg ((part V c).length - (k + 1))
        case measure => omega
        case rel => exact ⟨k + 1, by omega, rfl, by go_num, by rw [HSK.out]; rfl, HC.out⟩
      · have hci' : ¬ (c : Int) = (i : Int) := by omega
        have hci2 : ¬ (97 : Int) + (c : Int) - 97 = (i : Int) := by omega
        have hci3 : ((97 : Int) + (c : Int) - 97 == (i : Int)) = false := by simp; omega
        rw [decide_eq_false (fun e => hci e.symm), Bool.false_or] at HSK
        cases x
        · rw [if_neg (by simp)] at HSK
          go_wp2_with fail
          go_roundg ((part V i).length - (k + 1))
          case measure => omega
          case rel => exact ⟨k + 1, by omega, rfl, by go_num, by rw [HSK.out], HC.out⟩
        · rw [if_pos rfl] at HSK
          go_wp2_with fail
          go_roundg ((part V i).length - (k + 1))
          case measure => omega
          case rel => exact ⟨k + 1, by omega, rfl, by go_num, by rw [HSK.out]; rfl, HC.out⟩
    · obtain rfl : k = (part V i).length := by omega
      have d3 : decide ((part V i).length < (part V i).length) = false := by simp
      go_wp2_with fail
      go_ret
      exact ⟨by rw [HBV.out]; rfl, HC.out⟩

set_option maxRecDepth 100000 in
set_option maxHeartbeats 1000000 in
theorem deep_any (V : List (List Nat)) (hV : WF V) (b off cap rb rc : Nat) : ∀ (f i : Nat), i < V.length → rk V i ≤ f → f ≤ V.length → ∀ (w : World), VAt w b off V → RAt w rb V.length (reachB V) →
    Calls Tryd.prog 64 #[.slice (some ⟨b, off, none⟩) V.length cap, .slice (some ⟨rb, 0, none⟩) V.length rc, .int .i64 (i : Int)] w fun e w' => e = .returned (.int .i64 (chF V f i : Int)) ∧ Chg (fun _ => False) w w' := by
  intro f
  induction f with
  | zero => intro i hi hr; have := rk_pos hV hi; omega
  | succ f ih =>
    intro i hi hr hfV w hv hm
    have hn6 := hV.le
    have HIH := Lib.hid ih
    have HV := Lib.hid hv; have HM := Lib.hid hm
    have HRI := Lib.hid hr
    have HWF := Lib.hid hV
    have HCF := Lib.hid (show chF V (f + 1) i = (if 0 < backV V i then 1 else 0) + mxF (chF V f) (dn V i) V.length from rfl)
    have HBR := Lib.hid (back_reach hV hi)
    have HMX := Lib.hid (mxF_le (chF V f) (dn V i) f (chF_le V f))
    have HCL := Lib.hid (chF_le V f)
    clear ih hv hm hr hV
    go_enter Tryd.func64, Tryd.ntmps64
    go_wp2_with fail
    go_loopg [8, 7] V.length (fun gm jv mv wr => ∃ j : Nat, j ≤ V.length ∧ gm = V.length - j ∧ jv = .int .i64 j ∧ mv = .int .i64 (mxF (chF V f) (dn V i) j) ∧ Chg (fun _ => False) w wr)
    case atStart => exact ⟨0, by omega, by omega, rfl, rfl, Chg.refl _ _⟩
    case round =>
      obtain ⟨j, hj, rfl, rfl, rfl, hc⟩ := hrel
      have HC := Lib.hid hc
      clear hc
      by_cases hlt : j < V.length
      · have d0 : decide (j < V.length) = true := by simpa using hlt
        have hmx := HMX.out j
        have HSM := Lib.hid (show mxF (chF V f) (dn V i) (j + 1) = if dn V i j = true then max (mxF (chF V f) (dn V i) j) (chF V f j) else mxF (chF V f) (dn V i) j from rfl)
        have HRD := Lib.hid (rk_dn HWF.out hi hlt)
        have HDN := Lib.hid (dn_reach HWF.out hi hlt)
        obtain ⟨M, hM⟩ : ∃ M, mxF (chF V f) (dn V i) j = M := ⟨_, rfl⟩
        rw [hM] at HSM hmx ⊢
        clear hM
        have hm := HM.out.chg HC.out
        obtain ⟨g1, c1, m1, m2⟩ := hm i hi
        have m3 := m2 j hlt
        obtain ⟨g2, c2, m4, m5⟩ := hm j hlt
        have m6 := m5 i hi
        clear m2 m5 hm
        obtain ⟨x, hx⟩ : ∃ x, reachB V i j = x := ⟨_, rfl⟩
        obtain ⟨y, hy⟩ : ∃ y, reachB V j i = y := ⟨_, rfl⟩
        rw [hx, hy] at HDN
        rw [hx] at m3
        rw [hy] at m6
        clear hx hy
        cases x <;> cases y
        case true.false =>
          have HDT := Lib.hid (show dn V i j = true by rw [HDN.out]; rfl)
          rw [if_pos HDT.out] at HSM
          have HCH := Lib.hid (HIH.out j hlt (by have := HRD.out HDT.out; have := HRI.out; omega) (by omega) wr (HV.out.chg HC.out (fun x => x)) (HM.out.chg HC.out))
          have hcl := HCL.out j
          obtain ⟨N, hN⟩ : ∃ N, chF V f j = N := ⟨_, rfl⟩
          rw [hN] at HCH HSM hcl
          clear hN
          go_wp2_with fail
          refine HCH.out.mono ?_
          rintro e w2 ⟨rfl, hc2⟩
          have HC2 := Lib.hid (HC.out.trans hc2 (fun _ x => x.elim))
          clear hc2
          go_wp2_with fail
          go_roundg (V.length - (j + 1))
          case measure => omega
          case rel => exact ⟨j + 1, by omega, rfl, by go_num, by rw [HSM.out]; congr 1; omega, HC2.out⟩
        all_goals
          have HDF := Lib.hid (show dn V i j = false by rw [HDN.out]; rfl)
          go_wp2_with fail
          go_roundg (V.length - (j + 1))
          case measure => omega
          case rel => exact ⟨j + 1, by omega, rfl, by go_num, by rw [HSM.out, HDF.out]; rfl, HC.out⟩
      · obtain rfl : j = V.length := by omega
        have hmx := HMX.out V.length
        obtain ⟨g1, c1, m1, m2⟩ := (HM.out.chg HC.out) i hi
        have m3 := m2 i hi
        clear m2
        obtain ⟨M, hM⟩ : ∃ M, mxF (chF V f) (dn V i) V.length = M := ⟨_, rfl⟩
        rw [hM] at HCF hmx ⊢
        have hws : IntKind.i64.wrap ((M : Int) + 1) = ((M + 1 : Nat) : Int) := IntWalk.i64_in _ (by omega)
        clear hM
        obtain ⟨x, hx⟩ : ∃ x, reachB V i i = x := ⟨_, rfl⟩
        rw [hx] at m3 HBR
        clear hx
        cases x
        · rw [if_neg (fun e => by have := HBR.out.1 e; simp at this)] at HCF
          go_wp2_with fail
          go_ret
          exact ⟨by rw [HCF.out, Nat.zero_add]; rfl, HC.out⟩
        · rw [if_pos (HBR.out.2 rfl), show 1 + M = M + 1 from Nat.add_comm _ _] at HCF
          go_wp2_with fail
          go_ret
          exact ⟨by rw [HCF.out]; rfl, HC.out⟩
end Go.Proofs.YtilacamhjibneaaDoor

/- Kind of the reference, walked. Its conditions are its premises. -/
namespace Go.Proofs.YtilacamhjibneaaDoor
open Go.RowKit

theorem mxL_congr {g h : Nat → Nat} {t : List Nat} : ∀ k, k ≤ t.length → (∀ j, j < k → g (at0 t j) = h (at0 t j)) → mxL g t k = mxL h t k
  | 0, _, _ => rfl
  | k + 1, hk, hh => by
    unfold mxL
    rw [mxL_congr k (by omega) (fun j hj => hh j (by omega)), hh k (by omega)]
theorem mxL_ge {g : Nat → Nat} {t : List Nat} : ∀ {k j : Nat}, j < k → g (at0 t j) ≤ mxL g t k
  | 0, j, h => by omega
  | k + 1, j, h => by
    unfold mxL
    by_cases hj : j = k
    · subst hj; exact Nat.le_max_right _ _
    · exact Nat.le_trans (mxL_ge (k := k) (by omega)) (Nat.le_max_left _ _)
/-- If a letter is wild, the kind is 3. -/
theorem kind_wild {V : List (List Nat)} {t : List Nat} {j : Nat} (hj : j < t.length) (hw : wildV V (at0 t j) = true) : kindV V t = .tuple #[.int .i64 3, .int .i64 0, .int .i64 0] := by
  have h1 : natK V (at0 t j) = 3 := by unfold natK; rw [if_pos hw]
  have h2 : kindB V t = 3 := by
    have h3 := mxL_ge (g := natK V) (t := t) hj
    have h4 := mxL_le (natK V) t 3 (natK_le V) t.length
    unfold kindB
    omega
  unfold kindV
  rw [h2]
  rfl
theorem natK_tame {V : List (List Nat)} {c : Nat} (h : wildV V c = false) : natS V c = chF V V.length c ∧ natK V c = if 1 < chF V V.length c then 2 else if chF V V.length c = 1 then 1 else 0 := by
  have h1 : natS V c = chF V V.length c := by unfold natS; rw [h]; rfl
  refine ⟨h1, ?_⟩
  unfold natK
  rw [h, h1]
  rfl
theorem mxK (t : List Nat) (g : Nat → Nat) : ∀ k, mxL (fun c => if 1 < g c then 2 else if g c = 1 then 1 else 0) t k = if 1 < mxL g t k then 2 else if mxL g t k = 1 then 1 else 0
  | 0 => by simp [mxL]
  | k + 1 => by
    unfold mxL
    rw [mxK t g k]
    generalize mxL g t k = a
    generalize g (at0 t k) = b
    by_cases h1 : 1 < a
    · rw [if_pos h1, if_pos (show 1 < max a b by omega)]; split <;> (try split) <;> omega
    · by_cases h2 : 1 < b
      · rw [if_pos h2, if_pos (show 1 < max a b by omega)]; split <;> (try split) <;> omega
      · rw [if_neg h1, if_neg h2, if_neg (show ¬ 1 < max a b by omega)]
        by_cases h3 : a = 1 <;> by_cases h4 : b = 1 <;> simp [h3, h4] <;> omega
theorem kind_tame {V : List (List Nat)} {t : List Nat} (h : ∀ j, j < t.length → wildV V (at0 t j) = false) : kindV V t = if mxL (chF V V.length) t t.length = 0 then .tuple #[.int .i64 0, .int .i64 0, .int .i64 0] else if mxL (chF V V.length) t t.length = 1 then .tuple #[.int .i64 1, .int .i64 0, .int .i64 0] else .tuple #[.int .i64 2, .int .i64 ((mxL (chF V V.length) t t.length : Int) - 1), .int .i64 0] := by
  have h1 : kindM V t = mxL (chF V V.length) t t.length := mxL_congr _ (Nat.le_refl _) (fun j hj => (natK_tame (h j hj)).1)
  have h2 : kindB V t = mxL (fun c => if 1 < chF V V.length c then 2 else if chF V V.length c = 1 then 1 else 0) t t.length := mxL_congr _ (Nat.le_refl _) (fun j hj => (natK_tame (h j hj)).2)
  rw [mxK] at h2
  unfold kindV
  rw [h1, h2]
  generalize mxL (chF V V.length) t t.length = a
  by_cases ha : 1 < a
  · rw [if_pos ha, if_pos rfl, if_neg (by omega), if_neg (by omega)]
  · by_cases hb : a = 1
    · subst hb; rfl
    · obtain rfl : a = 0 := by omega
      rfl

theorem wlF_true {V : List (List Nat)} {i j : Nat} (h : (cm (comesM V) i j && decide (1 < backV V j)) = true) : ∀ {k : Nat}, j < k → wlF V i k = true
  | 0, hk => by omega
  | k + 1, hk => by
    unfold wlF
    by_cases hj : j = k
    · subst hj; rw [if_pos h]
    · rw [wlF_true h (k := k) (by omega)]; split <;> rfl
theorem wlF_next {V : List (List Nat)} {i j : Nat} (h : ¬ (cm (comesM V) i j && decide (1 < backV V j)) = true) (h0 : wlF V i j = false) : wlF V i (j + 1) = false := by
  unfold wlF
  rw [if_neg h, h0]

set_option maxRecDepth 100000 in
set_option maxHeartbeats 1000000 in
theorem rkind_ok (V : List (List Nat)) (hV : WF V) (t : List Nat) (ht : ∀ c ∈ t, c < V.length) (hl : t.length ≤ 30) (b off cap : Nat) (w : World) (hv : VAt w b off V) :
    Calls Tryd.prog 25 #[.slice (some ⟨b, off, none⟩) V.length cap, .string (str t)] w fun e w' => e = .returned (kindV V t) ∧ Chg (fun _ => False) w w' := by
  have hn6 := hV.le
  have HS := Lib.hid (rshoot_ok V hV t ht hl b off cap w hv)
  have HRE := Lib.hid (reach_any V hV b off cap w hv)
  have HV := Lib.hid hv; have HWF := Lib.hid hV; have HT := Lib.hid ht
  clear hv hV ht
  go_enter Tryd.func25, Tryd.ntmps25
  go_wp2_with fail
  refine HS.out.mono ?_
  rintro e w1 ⟨rfl, rfl⟩
  go_wp2_with fail
  refine HRE.out.mono ?_
  rintro e w2 ⟨⟨rb, rc, rfl, hr⟩, hc2⟩
  have HR := Lib.hid hr; have HC2 := Lib.hid hc2
  clear hr hc2
  have hsz := str_size t
  go_wp2_with fail
  go_loopg [10, 9] t.length (fun gm iv mv wr => ∃ i : Nat, i ≤ t.length ∧ gm = t.length - i ∧ iv = .int .i64 i ∧ mv = .int .i64 (mxL (chF V V.length) t i) ∧ (∀ j, j < i → wildV V (at0 t j) = false) ∧ Chg (fun _ => False) w2 wr)
  case atStart => exact ⟨0, by omega, by omega, rfl, rfl, fun j hj => by omega, Chg.refl _ _⟩
  case round =>
    obtain ⟨i, hi, rfl, rfl, rfl, hw, hc⟩ := hrel
    have HC := Lib.hid hc; have HW := Lib.hid hw
    clear hc hw
    by_cases hit : i < t.length
    · have d0 : decide (i < t.length) = true := by simpa using hit
      have hcn := HT.out _ (List.getElem_mem hit)
      have hidx := index_chr hit (by omega)
      have hu8 := u8_chr t[i] (by omega)
      have HAT := Lib.hid (at0_lt_of hit)
      have HSM := Lib.hid (show mxL (chF V V.length) t (i + 1) = max (mxL (chF V V.length) t i) (chF V V.length (at0 t i)) from rfl)
      have HML := Lib.hid (mxL_le (chF V V.length) t V.length (chF_le V V.length) i)
      rw [HAT.out] at HSM
      obtain ⟨c, hc⟩ : ∃ c, t[i] = c := ⟨_, rfl⟩
      rw [hc] at hcn hu8 HSM HAT
      simp only [hc] at hidx
      have h97 : (97 : Int) + (c : Int) - 97 = (c : Int) := by omega
      have hw97 : IntKind.i64.wrap (c : Int) = (c : Int) := IntWalk.i64_in _ (by omega)
      clear hc
      obtain ⟨w9, hw9⟩ : ∃ w9 : World, w9 = wr := ⟨_, rfl⟩
      rw [← hw9] at HC ⊢
      clear hw9
      go_wp2_with fail
      go_loopg [12] V.length (fun gm qv wr => ∃ q : Nat, q ≤ V.length ∧ gm = V.length - q ∧ qv = .int .i64 q ∧ wlF V c q = false ∧ Chg (fun _ => False) w9 wr)
      case atStart => exact ⟨0, by omega, by omega, rfl, rfl, Chg.refl _ _⟩
      case round =>
        obtain ⟨q, hq, rfl, rfl, hwl, hc⟩ := hrel
        have HC9 := Lib.hid (HC.out.trans hc (fun _ x => x.elim)); have HWL := Lib.hid hwl; have HC8 := Lib.hid hc
        clear hc hwl
        by_cases hqn : q < V.length
        · have d1 : decide (q < V.length) = true := by simpa using hqn
          have HCM := Lib.hid (reach_cm HWF.out hcn hqn)
          have HAG := Lib.hid (fun (wz : World) (hz : Chg (fun _ => False) w2 wz) => again_any V HWF.out q hqn b off cap rb rc wz (HV.out.chg (HC2.out.trans hz (fun _ x => x.elim)) (fun x => x)) (HR.out.chg hz))
          have HW1 := Lib.hid (fun h => wlF_true (V := V) (i := c) (j := q) h hqn)
          have HW2 := Lib.hid (fun h => wlF_next (V := V) (i := c) (j := q) h HWL.out)
          have hb8 := backV_le HWF.out q
          obtain ⟨g, gc, m1, m2⟩ := (HR.out.chg HC9.out) c hcn
          have m3 := m2 q hqn
          clear m2
          obtain ⟨B, hB⟩ : ∃ B, backV V q = B := ⟨_, rfl⟩
          simp only [hB] at HAG HW1 HW2 hb8
          clear hB
          have HKW := Lib.hid (fun h => kind_wild (V := V) (t := t) hit (show wildV V (at0 t i) = true by rw [HAT.out]; exact h))
          obtain ⟨x, hx⟩ : ∃ x, reachB V c q = x := ⟨_, rfl⟩
          rw [hx] at m3 HCM
          clear hx
          by_cases hor : q = c ∨ x = true
          · have hcm : cm (comesM V) c q = true := by
              rw [HCM.out]
              rcases hor with h | h <;> simp [h]
            rw [hcm, Bool.true_and] at HW1 HW2
            have h97q : (q : Int) = (c : Int) ∨ x = true := hor.imp (fun h => by omega) id
            clear hcm
            by_cases h1B : 1 < B
            · have HK := Lib.hid (HKW.out (HW1.out (by simpa using h1B)))
              have dB : decide ((1 : Int) < (B : Int)) = true := by simp; omega
              clear HW1 HW2 HKW
              by_cases hqc : q = c
              · subst hqc
                go_wp2_with fail
                refine (HAG.out wr HC9.out).mono ?_
                rintro e w5 ⟨rfl, hc5⟩
                have HC5 := Lib.hid (HC9.out.trans hc5 (fun _ x => x.elim))
                clear hc5
                go_wp2_with fail
                go_ret3
                exact ⟨by rw [HK.out]; rfl, HC2.out.trans HC5.out (fun _ x => x.elim)⟩
              · obtain rfl : x = true := hor.resolve_left hqc
                have hqc' : ¬ (q : Int) = (c : Int) := by omega
                go_wp2_with fail
                refine (HAG.out wr HC9.out).mono ?_
                rintro e w5 ⟨rfl, hc5⟩
                have HC5 := Lib.hid (HC9.out.trans hc5 (fun _ x => x.elim))
                clear hc5
                go_wp2_with fail
                go_ret3
                exact ⟨by rw [HK.out]; rfl, HC2.out.trans HC5.out (fun _ x => x.elim)⟩
            · have HN := Lib.hid (HW2.out (by simpa using h1B))
              have dB : decide ((1 : Int) < (B : Int)) = false := by simp; omega
              clear HW1 HW2 HKW
              by_cases hqc : q = c
              · subst hqc
                go_wp2_with fail
                refine (HAG.out wr HC9.out).mono ?_
                rintro e w5 ⟨rfl, hc5⟩
                have HC5 := Lib.hid (HC8.out.trans hc5 (fun _ x => x.elim))
                clear hc5
                go_wp2_with fail
                go_roundg (V.length - (q + 1))
                case measure => omega
                case rel => exact ⟨q + 1, by omega, rfl, by go_num, HN.out, HC5.out⟩
              · obtain rfl : x = true := hor.resolve_left hqc
                have hqc' : ¬ (q : Int) = (c : Int) := by omega
                go_wp2_with fail
                refine (HAG.out wr HC9.out).mono ?_
                rintro e w5 ⟨rfl, hc5⟩
                have HC5 := Lib.hid (HC8.out.trans hc5 (fun _ x => x.elim))
                clear hc5
                go_wp2_with fail
                go_roundg (V.length - (q + 1))
                case measure => omega
                case rel => exact ⟨q + 1, by omega, rfl, by go_num, HN.out, HC5.out⟩
          · have hqc : ¬ q = c := fun h => hor (.inl h)
            obtain rfl : x = false := by
              cases x with
              | false => rfl
              | true => exact absurd (.inr rfl) hor
            have hqc' : ¬ (q : Int) = (c : Int) := by omega
            have HN := Lib.hid (HW2.out (by rw [HCM.out, decide_eq_false hqc]; simp))
            clear HW1 HW2 HKW hor
            go_wp2_with fail
            go_roundg (V.length - (q + 1))
            case measure => omega
            case rel => exact ⟨q + 1, by omega, rfl, by go_num, HN.out, HC8.out⟩
        · obtain rfl : q = V.length := by omega
          have HDP := Lib.hid (deep_any V HWF.out b off cap rb rc V.length c hcn (rk_le V c) (Nat.le_refl _) wr (HV.out.chg (HC2.out.trans HC9.out (fun _ x => x.elim)) (fun x => x)) (HR.out.chg HC9.out))
          have hcl := chF_le V V.length c
          obtain ⟨N, hN⟩ : ∃ N, chF V V.length c = N := ⟨_, rfl⟩
          obtain ⟨M, hM⟩ : ∃ M, mxL (chF V V.length) t i = M := ⟨_, rfl⟩
          rw [hN] at HDP HSM hcl
          rw [hM] at HSM HML ⊢
          have hml := HML.out
          have HWN := Lib.hid (show ∀ j, j < i + 1 → wildV V (at0 t j) = false from fun j hj => by
            by_cases h : j = i
            · subst h; rw [HAT.out]; exact HWL.out
            · exact HW.out j (by omega))
          clear hN hM
          go_wp2_with fail
          refine HDP.out.mono ?_
          rintro e w5 ⟨rfl, hc5⟩
          have HC5 := Lib.hid (HC9.out.trans hc5 (fun _ x => x.elim))
          clear hc5
          go_wp2_with fail
          go_roundg (t.length - (i + 1))
          case measure => omega
          case rel => exact ⟨i + 1, by omega, rfl, by go_num, by rw [HSM.out]; congr 1; omega, HWN.out, HC5.out⟩
    · obtain rfl : i = t.length := by omega
      have d0 : decide (t.length < t.length) = false := by simp
      have HK := Lib.hid (kind_tame HW.out)
      have hml := mxL_le (chF V V.length) t V.length (chF_le V V.length) t.length
      obtain ⟨M, hM⟩ : ∃ M, mxL (chF V V.length) t t.length = M := ⟨_, rfl⟩
      rw [hM] at HK hml ⊢
      clear hM
      by_cases h0 : M = 0
      · subst h0
        rw [if_pos rfl] at HK
        go_wp2_with fail
        go_ret3
        exact ⟨by rw [HK.out]; rfl, HC2.out.trans HC.out (fun _ x => x.elim)⟩
      · rw [if_neg h0] at HK
        by_cases h1 : M = 1
        · subst h1
          rw [if_pos rfl] at HK
          go_wp2_with fail
          go_ret3
          exact ⟨by rw [HK.out]; rfl, HC2.out.trans HC.out (fun _ x => x.elim)⟩
        · rw [if_neg h1] at HK
          have e0 : ¬ (M : Int) = 0 := by omega
          have e1 : ¬ (M : Int) = 1 := by omega
          have e2 : wrap64 ((M : Int) - 1) = (M : Int) - 1 := wrap_id (by omega)
          go_wp2_with fail
          go_ret3
          exact ⟨by rw [HK.out]; rfl, HC2.out.trans HC.out (fun _ x => x.elim)⟩
end Go.Proofs.YtilacamhjibneaaDoor

/- Dies, walked. Its conditions are its premises. -/
namespace Go.Proofs.YtilacamhjibneaaDoor
open Go.RowKit

/-- The first year, from y on, in which nothing is left. -/
def dieF (V : List (List Nat)) (t : List Nat) : Nat → Nat → Value
  | 0, _ => .tuple #[.int .i64 0, .int .i64 10]
  | f + 1, y => if (gen V y t).length = 0 then .tuple #[.int .i64 (y : Int), .int .i64 0] else dieF V t f (y + 1)
def dieV (V : List (List Nat)) (t : List Nat) : Value := dieF V t (V.length + 1) 0

set_option maxRecDepth 100000 in
set_option maxHeartbeats 1000000 in
theorem dies_ok (V : List (List Nat)) (hV : WF V) (t : List Nat) (ht : ∀ c ∈ t, c < V.length) (hl : t.length ≤ 30) (b off cap : Nat) (w : World) (hv : VAt w b off V) :
    Calls Tryd.prog 22 #[.slice (some ⟨b, off, none⟩) V.length cap, .string (str t)] w fun e w' => e = .returned (dieV V t) ∧ Chg (fun _ => False) w w' := by
  have hn6 := hV.le
  have HS := Lib.hid (shot_ok V hV t ht hl b off cap w hv)
  have HV := Lib.hid hv; have HWV := Lib.hid hV; have HT := Lib.hid ht
  have HCV := Lib.hid (fun w => counts_any V.length t (some ⟨b, off, none⟩) cap w (by omega) ht (by omega))
  have HLV := Lib.hid (agedF_len V t)
  have HEV := Lib.hid (agedF_le V t (by omega))
  have HSG := Lib.hid (sum_gen hV ht (show t.length ≤ lim by unfold lim; omega))
  clear hv hV ht
  obtain ⟨R, hR⟩ : ∃ R, dieV V t = R := ⟨_, rfl⟩
  have HR : Hid (dieF V t (V.length + 1) 0 = R) := Lib.hid hR
  rw [hR]
  clear hR
  go_enter Tryd.func22, Tryd.ntmps22
  go_wp2_with fail
  refine HS.out.mono ?_
  rintro e w1 ⟨rfl, rfl⟩
  go_wp2_with fail
  refine (HCV.out w1).mono ?_
  rintro e w2 ⟨rfl, hb2, hc2⟩
  obtain ⟨gx, hgx⟩ : ∃ gx, w1.heap.size = gx := ⟨_, rfl⟩
  rw [hgx] at hb2 ⊢
  have HB2 := Lib.hid hb2; have HC2 := Lib.hid hc2
  clear hb2 hc2 hgx
  go_wp2_with fail
  go_loopg [25, 8] (V.length + 1) (fun gm kv xv wr => ∃ k gx : Nat, k ≤ V.length + 1 ∧ gm = V.length + 1 - k ∧ kv = .int .i64 k ∧ xv = .slice (some ⟨gx, 0, none⟩) V.length V.length ∧
    Blk wr gx 3 (nv (agedF V t k)) ∧ Chg (fun _ => False) w1 wr ∧ dieF V t (V.length + 1 - k) k = R)
  case atStart => exact ⟨0, gx, by omega, by omega, rfl, rfl, HB2.out, HC2.out, HR.out⟩
  case round =>
    clear HB2 HC2
    obtain ⟨k, gx, hk, rfl, rfl, rfl, hx, hc, hr⟩ := hrel
    have HX := Lib.hid hx; have HC := Lib.hid hc; have HRR := Lib.hid hr
    clear hx hc hr
    by_cases hlt : k < V.length + 1
    · have d0 : decide ((k : Int) < (V.length : Int) + 1) = true := by simp; omega
      have HS1 := Lib.hid (sum_any (agedF V t k) gx 0 V.length wr (nats_of_blk HX.out) (HEV.out k) (by rw [HLV.out]; omega))
      rw [HLV.out, HSG.out k] at HS1
      obtain ⟨f, hf⟩ : ∃ f, V.length + 1 - k = f + 1 := ⟨V.length - k, by omega⟩
      have HF := Lib.hid hf
      have HRN : Hid ((if (gen V k t).length = 0 then .tuple #[.int .i64 (k : Int), .int .i64 0] else dieF V t f (k + 1)) = R) := Lib.hid (by rw [← HRR.out, hf]; rfl)
      clear hf
      have HA1 := Lib.hid (after_any V HWV.out (agedF V t k) b off cap gx 0 V.length wr (HV.out.chg HC.out (fun x => x)) (nats_of_blk HX.out) (HLV.out k) (HEV.out k))
      obtain ⟨p, hp⟩ : ∃ p, (gen V k t).length = p := ⟨_, rfl⟩
      rw [hp] at HS1 HRN
      clear hp
      by_cases hp0 : p = 0
      · subst hp0
        rw [if_pos rfl] at HRN
        rw [show min 0 lim = 0 by omega] at HS1
        go_wp2_with fail
        refine HS1.out.mono ?_
        rintro e w4 ⟨rfl, rfl⟩
        go_wp2_with fail
        go_ret2
        exact ⟨by rw [← HRN.out]; rfl, HC.out⟩
      · rw [if_neg hp0] at HRN
        obtain ⟨m, hm⟩ : ∃ m, min p lim = m := ⟨_, rfl⟩
        rw [hm] at HS1
        have hm0 : ¬ (m : Int) = 0 := by
          unfold lim at hm
          omega
        clear hm
        go_wp2_with fail
        refine HS1.out.mono ?_
        rintro e w4 ⟨rfl, rfl⟩
        go_wp2_with fail
        refine HA1.out.mono ?_
        rintro e w5 ⟨rfl, hb5, hc5⟩
        obtain ⟨g5, hg5⟩ : ∃ g5, w4.heap.size = g5 := ⟨_, rfl⟩
        rw [hg5] at hb5 ⊢
        have HB5 := Lib.hid hb5; have HC5 := Lib.hid (HC.out.trans hc5 (fun _ x => x.elim))
        clear hb5 hc5 hg5
        go_wp2_with fail
        go_roundg (V.length + 1 - (k + 1))
        case measure => omega
        case rel => exact ⟨k + 1, g5, by omega, rfl, by go_num, rfl, HB5.out, HC5.out, by rw [show V.length + 1 - (k + 1) = f by have := HF.out; omega]; exact HRN.out⟩
    · obtain rfl : k = V.length + 1 := by omega
      have HRP : Hid (.tuple #[.int .i64 0, .int .i64 10] = R) := Lib.hid (by have h := HRR.out; rw [Nat.sub_self] at h; exact h)
      have d0 : decide ((((V.length + 1 : Nat) : Int)) < (V.length : Int) + 1) = false := by simp
      go_wp2_with fail
      go_ret2
      exact ⟨by rw [← HRP.out]; rfl, HC.out⟩
end Go.Proofs.YtilacamhjibneaaDoor

/- counts of the reference, walked. Its conditions are its premises. -/
namespace Go.Proofs.YtilacamhjibneaaDoor
open Go.RowKit

def rafP (p : List Nat) (x : Nat) (o : List Nat) : Nat → List Nat
  | 0 => o
  | k + 1 => (rafP p x o k).set (at0 p k) (min (at0 (rafP p x o k) (at0 p k) + x) M63)
def rafF (V : List (List Nat)) (T : List Nat) : Nat → List Nat
  | 0 => List.replicate V.length 0
  | i + 1 => rafP (part V i) (at0 T i) (rafF V T i) (part V i).length
def ragF (V : List (List Nat)) (t : List Nat) : Nat → List Nat
  | 0 => cntV V.length t
  | y + 1 => rafF V (ragF V t y) V.length
theorem rafP_len (p : List Nat) (x : Nat) (o : List Nat) : ∀ k, (rafP p x o k).length = o.length
  | 0 => rfl
  | k + 1 => by rw [rafP, List.length_set, rafP_len p x o k]
theorem rafF_len (V : List (List Nat)) (T : List Nat) : ∀ i, (rafF V T i).length = V.length
  | 0 => by simp [rafF]
  | i + 1 => by rw [rafF, rafP_len, rafF_len V T i]
theorem ragF_len (V : List (List Nat)) (t : List Nat) : ∀ y, (ragF V t y).length = V.length
  | 0 => cntF_len _ _ _
  | y + 1 => rafF_len _ _ _
theorem rafP_le (p : List Nat) (x : Nat) {o : List Nat} (h : ∀ y ∈ o, y ≤ M63) : ∀ k, ∀ y ∈ rafP p x o k, y ≤ M63
  | 0 => h
  | k + 1 => by
    rw [rafP]
    exact set_le (rafP_le p x h k) (Nat.min_le_right _ _)
theorem rafF_le (V : List (List Nat)) (T : List Nat) : ∀ i, ∀ y ∈ rafF V T i, y ≤ M63
  | 0 => by intro y hy; simp [rafF] at hy; unfold M63; omega
  | i + 1 => by
    rw [rafF]
    exact rafP_le _ _ (rafF_le V T i) _
theorem ragF_le (V : List (List Nat)) (t : List Nat) (ht : t.length ≤ 200000) : ∀ y, ∀ x ∈ ragF V t y, x ≤ M63
  | 0 => fun x hx => by have := cntF_le V.length t _ x hx; unfold M63; omega
  | y + 1 => rafF_le _ _ _
theorem rafP_at {p o : List Nat} {x : Nat} (hp : ∀ c ∈ p, c < o.length) (c : Nat) (hc : c < o.length) (ho : at0 o c ≤ M63) : ∀ k, k ≤ p.length → at0 (rafP p x o k) c = min (at0 o c + x * (p.take k).count c) M63
  | 0, _ => by simp [rafP]; omega
  | k + 1, hk => by
    have ih := rafP_at (x := x) hp c hc ho k (by omega)
    have hkl : k < p.length := by omega
    have hc2 : at0 p k < o.length := hp _ (at0_mem hkl)
    have ht : p.take (k + 1) = p.take k ++ [at0 p k] := by
      rw [at0_lt_of hkl]
      exact (List.take_append_getElem hkl).symm
    rw [rafP, at0_set _ _ _ _ (by rw [rafP_len]; exact hc2), ht, List.count_append]
    by_cases h : at0 p k = c
    · subst h
      rw [if_pos rfl, ih]
      simp only [List.count_singleton_self, Nat.mul_add, Nat.mul_one]
      omega
    · rw [if_neg h, ih]
      simp [h]
theorem rafF_at {V : List (List Nat)} (hV : WF V) (T : List Nat) (c : Nat) (hc : c < V.length) : ∀ i, at0 (rafF V T i) c = min (sg (fun j => at0 T j * (part V j).count c) i) M63
  | 0 => by
    unfold at0 rafF
    rw [List.getElem?_replicate, if_pos hc]
    simp [sg]
  | i + 1 => by
    have ih := rafF_at hV T c hc i
    rw [rafF, rafP_at (by rw [rafF_len]; exact (hV.part_le i).2) c (by rw [rafF_len]; exact hc) (by rw [ih]; exact Nat.min_le_right _ _) _ (Nat.le_refl _), List.take_length, ih, sg]
    omega
theorem ragF_at {V : List (List Nat)} (hV : WF V) {t : List Nat} (ht : ∀ c ∈ t, c < V.length) (hl : t.length ≤ M63) : ∀ (y c : Nat), c < V.length → at0 (ragF V t y) c = min ((gen V y t).count c) M63
  | 0, c, hc => by
    show at0 (cntV V.length t) c = min (t.count c) M63
    rw [cntV_at ht hc]
    have := List.count_le_length (l := t) (a := c)
    omega
  | y + 1, c, hc => by
    rw [ragF, rafF_at hV _ c hc, gen_succ, count_grow1 c _ (gen_lt hV y t ht), ← min_sg M63 (fun j => (gen V y t).count j)]
    congr 1
    exact sg_congr _ (fun j hj => by rw [ragF_at hV ht hl y j hj])

set_option maxRecDepth 100000 in
set_option maxHeartbeats 1000000 in
theorem rcounts_any (V : List (List Nat)) (hV : WF V) (t : List Nat) (ht : ∀ c ∈ t, c < V.length) (hl : t.length ≤ 1000) (Y : Nat) (hY : Y ≤ 1000) (b off cap : Nat) (w : World) (hv : VAt w b off V) :
    Calls Tryd.prog 77 #[.slice (some ⟨b, off, none⟩) V.length cap, .string (str t), .int .i64 (Y : Int)] w fun e w' => (∃ g, e = .returned (.slice (some ⟨g, 0, none⟩) V.length V.length) ∧ w.heap.size ≤ g ∧ Blk w' g 88 (uv (ragF V t Y))) ∧ Chg (fun _ => False) w w' := by
  have hn6 := hV.le
  have hmk := make_row V.length (by omega)
  have hsz := str_size t
  have HT := Lib.hid ht; have HV := Lib.hid hv; have HWF := Lib.hid hV
  have HRL := Lib.hid (ragF_le V t (by omega)); have HRN := Lib.hid (ragF_len V t)
  have HB0 : Hid (Blk (w.alloc (.cells (Array.replicate V.length (.int .u64 0)) 88)) w.heap.size 88 (uv (cntF V.length t 0))) := Lib.hid (made_row V.length w)
  have HC0 := Lib.hid ((Chg.refl (fun _ => False) w).alloc (.cells (Array.replicate V.length (.int .u64 0)) 88))
  obtain ⟨B, hB⟩ : ∃ B, w.heap.size = B := ⟨_, rfl⟩
  have HB := Lib.hid hB
  rw [hB] at HB0
  clear ht hv hV
  go_enter Tryd.func77, Tryd.ntmps77
  go_wp2_with fail
  clear hB
  generalize w.alloc (.cells (Array.replicate V.length (.int .u64 0)) 88) = W0 at HB0 HC0 ⊢
  go_loopg [8] t.length (fun gm iv wr => ∃ k : Nat, k ≤ t.length ∧ gm = t.length - k ∧ iv = .int .i64 k ∧ Blk wr B 88 (uv (cntF V.length t k)) ∧ Chg (fun _ => False) w wr)
  case atStart => exact ⟨0, by omega, by omega, rfl, HB0.out, HC0.out⟩
  case round =>
    clear HB0 HC0
    obtain ⟨k, hk, rfl, rfl, hblk, hchg⟩ := hrel
    have HBK := Lib.hid hblk; have HC := Lib.hid hchg
    clear hblk hchg
    by_cases hlt : k < t.length
    · have hcn := HT.out _ (List.getElem_mem hlt)
      have hidx := index_chr hlt (by omega)
      have hu8 := u8_chr t[k] (by omega)
      have HS : Hid (cntF V.length t (k + 1) = (cntF V.length t k).set t[k] (at0 (cntF V.length t k) t[k] + 1)) := Lib.hid (by rw [cntF, at0_lt_of hlt])
      have hle := at0_le (cntF_le V.length t k) t[k]
      have k1 := HBK.out.cell_some (uv_at (i := t[k]) (by rw [cntF_len]; omega))
      have f1 := HBK.out.free t[k]
      obtain ⟨c, hc⟩ : ∃ c, t[k] = c := ⟨_, rfl⟩
      rw [hc] at hcn hu8 HS hle k1 f1
      simp only [hc] at hidx
      obtain ⟨C, hC⟩ : ∃ C, 97 + c = C := ⟨_, rfl⟩
      rw [hC] at hu8
      simp only [hC] at hidx
      obtain ⟨m, hm⟩ : ∃ m, at0 (cntF V.length t k) c = m := ⟨_, rfl⟩
      rw [hm] at HS hle k1
      clear hc hC hm
      have d0 : decide (k < t.length) = true := by simpa using hlt
      have hci : (c : Int) < (V.length : Int) := by omega
      have hw1 : IntKind.u64.wrap ((m : Int) + 1) = ((m + 1 : Nat) : Int) := by simp [IntKind.wrap, IntKind.bits, IntKind.signed]; omega
      go_wp2_with fail
      go_roundg (t.length - (k + 1))
      case measure => omega
      case rel =>
        refine ⟨k + 1, by omega, rfl, by go_num, ?_, HC.out.setCell (.inr (by rw [HB.out]; exact Nat.le_refl _)) _⟩
        rw [HS.out, uv_set]
        exact HBK.out.set c _
    · obtain rfl : k = t.length := by omega
      have d0 : decide (t.length < t.length) = false := by simp
      go_wp2_with fail
      go_loopg [9, 7] Y (fun gm yv nw wr => ∃ y g : Nat, y ≤ Y ∧ gm = Y - y ∧ yv = .int .i64 y ∧ nw = .slice (some ⟨g, 0, none⟩) V.length V.length ∧ w.heap.size ≤ g ∧ Blk wr g 88 (uv (ragF V t y)) ∧ Chg (fun _ => False) w wr)
      case atStart => exact ⟨0, B, by omega, by omega, rfl, rfl, by rw [HB.out]; exact Nat.le_refl _, HBK.out, HC.out⟩
      case round =>
        clear HBK HC
        obtain ⟨y, g, hy, rfl, rfl, rfl, hg, hblk, hchg⟩ := hrel
        have HBK := Lib.hid hblk; have HC := Lib.hid hchg; have HG := Lib.hid hg
        clear hblk hchg hg
        by_cases hyY : y < Y
        · have d1 : decide ((y : Int) < (Y : Int)) = true := by simp; omega
          have HRY := Lib.hid (show ragF V t (y + 1) = rafF V (ragF V t y) V.length from rfl)
          have HTE := Lib.hid (HRL.out y); have HTL := Lib.hid (HRN.out y)
          obtain ⟨T, hT⟩ : ∃ T, ragF V t y = T := ⟨_, rfl⟩
          rw [hT] at HBK HRY HTE HTL
          clear hT
          obtain ⟨rb, hrb⟩ : ∃ rb, wr.heap.size = rb := ⟨_, rfl⟩
          have HRB := Lib.hid hrb
          have HB0 := made_row V.length wr
          rw [hrb] at HB0
          have HBK0 : Hid (Blk (wr.alloc (.cells (Array.replicate V.length (.int .u64 0)) 88)) rb 88 (uv (rafF V T 0))) := Lib.hid HB0
          have HC0 := Lib.hid ((Chg.refl (fun _ => False) wr).alloc (.cells (Array.replicate V.length (.int .u64 0)) 88))
          go_wp2_with fail
          clear HB0
          clear hrb
          obtain ⟨wo, hwo⟩ : ∃ wo : World, wo = wr := ⟨_, rfl⟩
          rw [← hwo] at HBK HC HRB HC0 HBK0 ⊢
          clear hwo
          generalize wo.alloc (.cells (Array.replicate V.length (.int .u64 0)) 88) = W0 at HC0 HBK0 ⊢
          go_loopg [11] V.length (fun gm iv wr => ∃ i : Nat, i ≤ V.length ∧ gm = V.length - i ∧ iv = .int .i64 i ∧ Blk wr rb 88 (uv (rafF V T i)) ∧ Chg (fun _ => False) wo wr)
          case atStart => exact ⟨0, by omega, by omega, rfl, HBK0.out, HC0.out⟩
          case round =>
            clear HBK0 HC0
            obtain ⟨i, hi, rfl, rfl, hblk, hchg⟩ := hrel
            have HBN := Lib.hid hblk; have HC2 := Lib.hid hchg
            clear hblk hchg
            by_cases hlt : i < V.length
            · have d2 : decide (i < V.length) = true := by simpa using hlt
              have hp8 := (HWF.out.part_le i).1
              have HP := Lib.hid (HWF.out.part_le i).2
              have HS := Lib.hid (show rafF V T (i + 1) = rafP (part V i) (at0 T i) (rafF V T i) (part V i).length from rfl)
              have hx := at0_le HTE.out i
              have HTC := Lib.hid (HBK.out.cell_some (uv_at (N := T) (i := i) (by rw [HTL.out]; exact hlt)))
              have HOL := Lib.hid (rafF_len V T i); have HOE := Lib.hid (rafF_le V T i)
              obtain ⟨x, hxx⟩ : ∃ x, at0 T i = x := ⟨_, rfl⟩
              obtain ⟨o, ho⟩ : ∃ o, rafF V T i = o := ⟨_, rfl⟩
              rw [hxx] at HS hx HTC
              rw [ho] at HS HOL HOE HBN
              clear hxx ho
              go_wp2_with fail
              go_loopg [12] (part V i).length (fun gm kv wr => ∃ k : Nat, k ≤ (part V i).length ∧ gm = (part V i).length - k ∧ kv = .int .i64 k ∧ Blk wr rb 88 (uv (rafP (part V i) x o k)) ∧ Chg (fun _ => False) wo wr)
              case atStart => exact ⟨0, by omega, by omega, rfl, HBN.out, HC2.out⟩
              case round =>
                clear HBN HC2
                obtain ⟨k, hk, rfl, rfl, hblk, hchg⟩ := hrel
                have HBN := Lib.hid hblk; have HC2 := Lib.hid hchg
                clear hblk hchg
                have c0 := (HV.out.chg (HC.out.trans HC2.out (fun _ x => x.elim)) (fun x => x)) i hlt
                rw [← part_lt hlt] at c0
                have hsz2 := str_size (part V i)
                by_cases hkl : k < (part V i).length
                · have d3 : decide (k < (part V i).length) = true := by simpa using hkl
                  have hcn := HP.out _ (List.getElem_mem hkl)
                  have hidx := index_chr hkl (by omega)
                  have hu8 := u8_chr (part V i)[k] (by omega)
                  have HSK : Hid (rafP (part V i) x o (k + 1) = (rafP (part V i) x o k).set (part V i)[k] (min (at0 (rafP (part V i) x o k) (part V i)[k] + x) M63)) := Lib.hid (by rw [rafP, at0_lt_of hkl])
                  have hm := at0_le (rafP_le (part V i) x HOE.out k) (part V i)[k]
                  have k1 := HBN.out.cell_some (uv_at (i := (part V i)[k]) (by rw [rafP_len, HOL.out]; omega))
                  have k2 := HC2.out.cell_some HTC.out (fun x => x)
                  have HLN := Lib.hid (show (rafP (part V i) x o k).length = V.length by rw [rafP_len, HOL.out])
                  obtain ⟨c, hc⟩ : ∃ c, (part V i)[k] = c := ⟨_, rfl⟩
                  rw [hc] at hcn hu8 HSK hm k1
                  simp only [hc] at hidx
                  obtain ⟨C, hC⟩ : ∃ C, 97 + c = C := ⟨_, rfl⟩
                  rw [hC] at hu8
                  simp only [hC] at hidx
                  obtain ⟨m, hmm⟩ : ∃ m, at0 (rafP (part V i) x o k) c = m := ⟨_, rfl⟩
                  rw [hmm] at HSK hm k1
                  clear hc hC hmm
                  have hci : (c : Int) < (V.length : Int) := by omega
                  have hii : (i : Int) < (V.length : Int) := by omega
                  have f1 := HBN.out.free c
                  have HPL := Lib.hid (rplus_any m x hm hx)
                  go_wp2_with fail
                  go_still_tail 12, (by kernel_rfl)
                  still_call (HPL.out _)
                  repeat still_step
                  refine wpStill_nil ?_
                  change wpList _ _ _ _ _ wr.drew
                  have HC3 := Lib.hid HC2.out.drew; have HB3 := Lib.hid HBN.out.drew
                  clear k1 k2 f1 hidx hu8 c0
                  generalize wr.drew = W1 at HC3 HB3 ⊢
                  have k1 := HB3.out.cell_some (uv_at (i := c) (by rw [HLN.out]; exact hcn))
                  have f1 := HB3.out.free c
                  go_wp2_with fail
                  go_roundg ((part V i).length - (k + 1))
                  case measure => omega
                  case rel =>
                    refine ⟨k + 1, by omega, rfl, by go_num, ?_, HC3.out.setCell (.inr (by rw [HRB.out]; exact Nat.le_refl _)) _⟩
                    rw [HSK.out, uv_set]
                    exact HB3.out.set c _
                · obtain rfl : k = (part V i).length := by omega
                  have d3 : decide ((part V i).length < (part V i).length) = false := by simp
                  go_wp2_with fail
                  go_roundg (V.length - (i + 1))
                  case measure => omega
                  case rel => exact ⟨i + 1, by omega, rfl, by go_num, by rw [HS.out]; exact HBN.out, HC2.out⟩
            · obtain rfl : i = V.length := by omega
              go_wp2_with fail
              go_roundg (Y - (y + 1))
              case measure => omega
              case rel => exact ⟨y + 1, rb, by omega, rfl, by go_num, rfl, by rw [← HRB.out]; exact HC.out.size, by rw [HRY.out]; exact HBN.out, HC.out.trans HC2.out (fun _ x => x.elim)⟩
        · obtain rfl : y = Y := by omega
          go_wp2_with fail
          go_ret
          exact ⟨⟨g, rfl, HG.out, HBK.out⟩, HC.out⟩
end Go.Proofs.YtilacamhjibneaaDoor

/- dies and Dies of the reference, walked. Their conditions are their premises. -/
namespace Go.Proofs.YtilacamhjibneaaDoor
open Go.RowKit

def anyF (T : List Nat) : Nat → Bool
  | 0 => false
  | k + 1 => anyF T k || decide (0 < at0 T k)
theorem anyF_iff (T : List Nat) : ∀ k, anyF T k = false ↔ ∀ j, j < k → at0 T j = 0
  | 0 => by simp [anyF]
  | k + 1 => by
    rw [anyF, Bool.or_eq_false_iff, anyF_iff T k, decide_eq_false_iff_not]
    exact ⟨fun ⟨a, b⟩ j hj => if h : j = k then h ▸ (by omega) else a j (by omega), fun h => ⟨fun j hj => h j (by omega), by have := h k (by omega); omega⟩⟩
theorem any_gen {V : List (List Nat)} (hV : WF V) {t : List Nat} (ht : ∀ c ∈ t, c < V.length) (hl : t.length ≤ 1000) (y : Nat) : anyF (ragF V t y) V.length = !decide ((gen V y t).length = 0) := by
  have h1 := anyF_iff (ragF V t y) V.length
  by_cases h : (gen V y t).length = 0
  · rw [decide_eq_true h]
    refine h1.2 (fun j hj => ?_)
    rw [ragF_at hV ht (by unfold M63; omega) y j hj, List.eq_nil_of_length_eq_zero h]
    simp
  · rw [decide_eq_false h]
    cases hb : anyF (ragF V t y) V.length with
    | true => rfl
    | false =>
      exfalso
      have h2 := h1.1 hb
      cases hg : gen V y t with
      | nil => exact h (by rw [hg]; rfl)
      | cons c l =>
        have hc := gen_lt hV y t ht c (by rw [hg]; simp)
        have h3 := h2 c hc
        rw [ragF_at hV ht (by unfold M63; omega) y c hc, hg, List.count_cons_self] at h3
        unfold M63 at h3
        omega
/-- The first year in which nothing is left, or -1. -/
def diI (V : List (List Nat)) (t : List Nat) : Nat → Nat → Int
  | 0, _ => -1
  | f + 1, y => if (gen V y t).length = 0 then (y : Int) else diI V t f (y + 1)
def diesI (V : List (List Nat)) (t : List Nat) : Int := diI V t (V.length + 1) 0
theorem diI_dieF (V : List (List Nat)) (t : List Nat) : ∀ f y, dieF V t f y = if diI V t f y < 0 then .tuple #[.int .i64 0, .int .i64 10] else .tuple #[.int .i64 (diI V t f y), .int .i64 0]
  | 0, y => rfl
  | f + 1, y => by
    rw [dieF, diI]
    by_cases h : (gen V y t).length = 0
    · rw [if_pos h, if_pos h, if_neg (by omega)]
    · rw [if_neg h, if_neg h]; exact diI_dieF V t f (y + 1)

set_option maxRecDepth 100000 in
set_option maxHeartbeats 1000000 in
theorem rdies_any (V : List (List Nat)) (hV : WF V) (t : List Nat) (ht : ∀ c ∈ t, c < V.length) (hl : t.length ≤ 1000) (b off cap : Nat) (w : World) (hv : VAt w b off V) :
    Calls Tryd.prog 60 #[.slice (some ⟨b, off, none⟩) V.length cap, .string (str t)] w fun e w' => e = .returned (.int .i64 (diesI V t)) ∧ Chg (fun _ => False) w w' := by
  have hn6 := hV.le
  have HV := Lib.hid hv; have HWV := Lib.hid hV; have HT := Lib.hid ht
  have HRN := Lib.hid (ragF_len V t)
  have HAN := Lib.hid (any_gen hV ht hl)
  clear hv hV ht
  obtain ⟨R, hR⟩ : ∃ R, diesI V t = R := ⟨_, rfl⟩
  have HR : Hid (diI V t (V.length + 1) 0 = R) := Lib.hid hR
  rw [hR]
  clear hR
  go_enter Tryd.func60, Tryd.ntmps60
  go_wp2_with fail
  go_loopg [5] (V.length + 1) (fun gm yv wr => ∃ y : Nat, y ≤ V.length + 1 ∧ gm = V.length + 1 - y ∧ yv = .int .i64 y ∧ diI V t (V.length + 1 - y) y = R ∧ Chg (fun _ => False) w wr)
  case atStart => exact ⟨0, by omega, by omega, rfl, HR.out, Chg.refl _ _⟩
  case round =>
    obtain ⟨y, hy, rfl, rfl, hr, hc⟩ := hrel
    have HRR := Lib.hid hr; have HC := Lib.hid hc
    clear hr hc
    by_cases hlt : y < V.length + 1
    · have d0 : decide ((y : Int) ≤ (V.length : Int)) = true := by simp; omega
      have d1 : y ≤ V.length := by omega
      obtain ⟨f, hf⟩ : ∃ f, V.length + 1 - y = f + 1 := ⟨V.length - y, by omega⟩
      have HF := Lib.hid hf
      have HRC := Lib.hid (show (if (gen V y t).length = 0 then (y : Int) else diI V t f (y + 1)) = R by rw [← HRR.out, hf]; rfl)
      clear hf
      have HCT := Lib.hid (rcounts_any V HWV.out t HT.out hl y (by omega) b off cap wr (HV.out.chg HC.out (fun x => x)))
      go_wp2_with fail
      refine HCT.out.mono ?_
      rintro e w2 ⟨⟨g, rfl, _, hb⟩, hc2⟩
      have HB := Lib.hid hb; have HC2 := Lib.hid (HC.out.trans hc2 (fun _ x => x.elim))
      clear hb hc2
      obtain ⟨T, hT⟩ : ∃ T, ragF V t y = T := ⟨_, rfl⟩
      have HTN := Lib.hid (show T.length = V.length by rw [← hT]; exact HRN.out y)
      have HTA := Lib.hid (show anyF T V.length = !decide ((gen V y t).length = 0) by rw [← hT]; exact HAN.out y)
      rw [hT] at HB
      clear hT
      go_wp2_with fail
      go_loopg [8, 7] V.length (fun gm pv av wr => ∃ p : Nat, p ≤ V.length ∧ gm = V.length - p ∧ pv = .int .i64 p ∧ av = .bool (anyF T p) ∧ Chg (fun _ => False) w2 wr)
      case atStart => exact ⟨0, by omega, by omega, rfl, rfl, Chg.refl _ _⟩
      case round =>
        obtain ⟨p, hp, rfl, rfl, rfl, hc⟩ := hrel
        have HC3 := Lib.hid hc
        clear hc
        by_cases hpl : p < V.length
        · have d2 : decide (p < V.length) = true := by simpa using hpl
          have k1 := (HC3.out.blk HB.out (fun x => x)).cell_some (uv_at (N := T) (i := p) (by rw [HTN.out]; exact hpl))
          have HAS := Lib.hid (show anyF T (p + 1) = (anyF T p || decide (0 < at0 T p)) from rfl)
          obtain ⟨m, hm⟩ : ∃ m, at0 T p = m := ⟨_, rfl⟩
          rw [hm] at k1 HAS
          clear hm
          obtain ⟨a, ha⟩ : ∃ a, anyF T p = a := ⟨_, rfl⟩
          rw [ha] at HAS ⊢
          clear ha
          by_cases hm0 : 0 < m
          · have e1 : decide ((0 : Int) < (m : Int)) = true := by simp; omega
            rw [decide_eq_true hm0] at HAS
            cases a
            all_goals
              go_wp2_with fail
              go_roundg (V.length - (p + 1))
              case measure => omega
              case rel => exact ⟨p + 1, by omega, rfl, by go_num, by rw [HAS.out]; rfl, HC3.out⟩
          · have e1 : decide ((0 : Int) < (m : Int)) = false := by simp; omega
            rw [decide_eq_false hm0] at HAS
            cases a
            all_goals
              go_wp2_with fail
              go_roundg (V.length - (p + 1))
              case measure => omega
              case rel => exact ⟨p + 1, by omega, rfl, by go_num, by rw [HAS.out]; rfl, HC3.out⟩
        · obtain rfl : p = V.length := by omega
          rw [HTA.out]
          by_cases hg : (gen V y t).length = 0
          · have HR0 := Lib.hid (HRC.out.symm.trans (if_pos hg))
            rw [decide_eq_true hg]
            clear hg
            go_wp2_with fail
            go_ret
            exact ⟨by rw [HR0.out]; rfl, HC2.out.trans HC3.out (fun _ x => x.elim)⟩
          · have HR1 := Lib.hid ((if_neg hg).symm.trans HRC.out)
            rw [decide_eq_false hg]
            clear hg
            go_wp2_with fail
            go_roundg (V.length + 1 - (y + 1))
            case measure => omega
            case rel => exact ⟨y + 1, by omega, rfl, by go_num, by rw [show V.length + 1 - (y + 1) = f by have := HF.out; omega]; exact HR1.out, HC2.out.trans HC3.out (fun _ x => x.elim)⟩
    · obtain rfl : y = V.length + 1 := by omega
      have HRP : Hid (-1 = R) := Lib.hid (by have h := HRR.out; rw [Nat.sub_self] at h; exact h)
      have d0 : ¬ ((V.length + 1 : Nat) : Int) ≤ (V.length : Int) := by omega
      go_wp2_with fail
      go_ret
      exact ⟨by rw [← HRP.out]; rfl, HC.out⟩

set_option maxRecDepth 100000 in
set_option maxHeartbeats 1000000 in
theorem rDies_ok (V : List (List Nat)) (hV : WF V) (t : List Nat) (ht : ∀ c ∈ t, c < V.length) (hl : t.length ≤ 30) (b off cap : Nat) (w : World) (hv : VAt w b off V) :
    Calls Tryd.prog 23 #[.slice (some ⟨b, off, none⟩) V.length cap, .string (str t)] w fun e w' => e = .returned (dieV V t) ∧ Chg (fun _ => False) w w' := by
  have HS := Lib.hid (rshoot_ok V hV t ht hl b off cap w hv)
  have HD := Lib.hid (rdies_any V hV t ht (by omega) b off cap w hv)
  have HE := Lib.hid (show dieV V t = if diesI V t < 0 then .tuple #[.int .i64 0, .int .i64 10] else .tuple #[.int .i64 (diesI V t), .int .i64 0] from diI_dieF V t _ _)
  clear hv hV ht
  obtain ⟨D, hD⟩ : ∃ D, diesI V t = D := ⟨_, rfl⟩
  rw [hD] at HD HE
  clear hD
  by_cases h : D < 0
  · rw [if_pos h] at HE
    have d0 : decide (D < 0) = true := by simpa using h
    go_enter Tryd.func23, Tryd.ntmps23
    go_wp2_with fail
    refine HS.out.mono ?_
    rintro e w1 ⟨rfl, rfl⟩
    go_wp2_with fail
    refine HD.out.mono ?_
    rintro e w2 ⟨rfl, hc⟩
    have HC := Lib.hid hc
    clear hc
    go_wp2_with fail
    go_ret2
    exact ⟨by rw [HE.out]; rfl, HC.out⟩
  · rw [if_neg h] at HE
    have d0 : decide (D < 0) = false := by simpa using h
    go_enter Tryd.func23, Tryd.ntmps23
    go_wp2_with fail
    refine HS.out.mono ?_
    rintro e w1 ⟨rfl, rfl⟩
    go_wp2_with fail
    refine HD.out.mono ?_
    rintro e w2 ⟨rfl, hc⟩
    have HC := Lib.hid hc
    clear hc
    go_wp2_with fail
    go_ret2
    exact ⟨by rw [HE.out]; rfl, HC.out⟩
end Go.Proofs.YtilacamhjibneaaDoor

/- Both Dies, both Kinds at any input; the law VineKinds, walked. No condition but the arguments' cells. -/
namespace Go.Proofs.YtilacamhjibneaaDoor
open Go.RowKit

theorem dieV_two (V : List (List Nat)) (t : List Nat) : ∃ a e : Int, dieV V t = .tuple #[.int .i64 a, .int .i64 e] := by
  unfold dieV
  rw [diI_dieF]
  split <;> exact ⟨_, _, rfl⟩
theorem kindV_three (V : List (List Nat)) (t : List Nat) : ∃ k p e : Int, kindV V t = .tuple #[.int .i64 k, .int .i64 p, .int .i64 e] := by
  unfold kindV
  split <;> exact ⟨_, _, _, rfl⟩

set_option maxRecDepth 100000 in
set_option maxHeartbeats 1000000 in
theorem kinds_both (P : List ByteArray) (s : ByteArray) (hn : P.length ≤ 1000) (hz : ∀ p ∈ P, p.size ≤ 1000) (hzs : s.size ≤ 1000) :
    ∃ (a e k p e2 : Int), ∀ (v : Value) (w : World), SlS w v P →
      (Calls Tryd.prog 22 #[v, .string s] w fun x w' => x = .returned (.tuple #[.int .i64 a, .int .i64 e]) ∧ Chg (fun _ => False) w w') ∧
      (Calls Tryd.prog 23 #[v, .string s] w fun x w' => x = .returned (.tuple #[.int .i64 a, .int .i64 e]) ∧ Chg (fun _ => False) w w') ∧
      (Calls Tryd.prog 24 #[v, .string s] w fun x w' => x = .returned (.tuple #[.int .i64 k, .int .i64 p, .int .i64 e2]) ∧ Chg (fun _ => False) w w') ∧
      (Calls Tryd.prog 25 #[v, .string s] w fun x w' => x = .returned (.tuple #[.int .i64 k, .int .i64 p, .int .i64 e2]) ∧ Chg (fun _ => False) w w') := by
  by_cases he : errS P s = 0
  · obtain ⟨V, t, rfl, rfl, hV, hl, ht⟩ := shot_of he
    obtain ⟨a, e, hA⟩ := dieV_two V t
    obtain ⟨k, p, e2, hK⟩ := kindV_three V t
    refine ⟨a, e, k, p, e2, fun v w hv => ?_⟩
    obtain ⟨ao, b, off, cap, rfl, hst, ha⟩ := hv.form
    have hpos := hV.pos
    obtain rfl := ha.resolve_left (fun e => by have h0 := congrArg List.length e; rw [List.length_map, List.length_nil] at h0; omega)
    have hva := vat_of hst
    rw [List.length_map]
    have h1 := dies_ok V hV t ht hl b off cap w hva
    have h2 := rDies_ok V hV t ht hl b off cap w hva
    have h3 := kind_ok V hV t ht hl b off cap w hva
    have h4 := rkind_ok V hV t ht hl b off cap w hva
    rw [hA] at h1 h2
    rw [hK] at h3 h4
    exact ⟨h1, h2, h3, h4⟩
  · refine ⟨0, (errS P s : Nat), 0, 0, (errS P s : Nat), fun v w hv => ?_⟩
    obtain ⟨ao, b, off, cap, rfl, hst, ha⟩ := hv.form
    have HS := Lib.hid (shot_any P s ao cap b off w hst ha hn hz hzs)
    rw [show shotV ao cap P s = .tuple #[.slice none 0 0, .int .i64 (errS P s : Nat)] by unfold shotV; rw [if_neg he]] at HS
    have HR := Lib.hid (rshoot_any P s ao cap b off w hst ha hn hz hzs)
    obtain ⟨E, hE⟩ : ∃ E, errS P s = E := ⟨_, rfl⟩
    rw [hE] at HS HR ⊢
    have dn : (((E : Nat) : Int) != 0) = true := by simpa [hE] using he
    clear hE he hst ha hv
    refine ⟨?_, ?_, ?_, ?_⟩
    · go_enter Tryd.func22, Tryd.ntmps22
      go_wp2_with fail
      refine HS.out.mono ?_
      rintro e w1 ⟨rfl, rfl⟩
      go_wp2_with fail
      go_ret2
      exact ⟨rfl, Chg.refl _ _⟩
    · go_enter Tryd.func23, Tryd.ntmps23
      go_wp2_with fail
      refine HR.out.mono ?_
      rintro e w1 ⟨rfl, rfl⟩
      go_wp2_with fail
      go_ret2
      exact ⟨rfl, Chg.refl _ _⟩
    · go_enter Tryd.func24, Tryd.ntmps24
      go_wp2_with fail
      refine HS.out.mono ?_
      rintro e w1 ⟨rfl, rfl⟩
      go_wp2_with fail
      go_ret3
      exact ⟨rfl, Chg.refl _ _⟩
    · go_enter Tryd.func25, Tryd.ntmps25
      go_wp2_with fail
      refine HR.out.mono ?_
      rintro e w1 ⟨rfl, rfl⟩
      go_wp2_with fail
      go_ret3
      exact ⟨rfl, Chg.refl _ _⟩

set_option maxRecDepth 100000 in
set_option maxHeartbeats 1000000 in
theorem vineKinds_law (P : List ByteArray) (s : ByteArray) (v : Value) (w : World) (hv : SlS w v P) (hs : s.size ≤ maxLen) :
    Calls Tryd.prog 5 #[v, .string s] w fun e w' => e = .returned (.bool true) ∧ Chg (fun _ => False) w w' := by
  have HF := Lib.hid (few_any P s v w hv hs)
  by_cases hfew : fewV P s = true
  · obtain ⟨hn, hz, hzs⟩ := few_small hfew
    rw [hfew] at HF
    obtain ⟨a, e, k, p, e2, hb⟩ := kinds_both P s hn hz hzs
    have HB := Lib.hid hb
    have HV := Lib.hid hv
    clear hb hfew hn hz hzs hv
    go_enter Tryd.func5, Tryd.ntmps5
    go_wp2_with fail
    refine HF.out.mono ?_
    rintro e w1 ⟨rfl, rfl⟩
    go_wp2_with fail
    refine ((HB.out v w1 HV.out).1).mono ?_
    rintro e w2 ⟨rfl, hc2⟩
    have HC2 := Lib.hid hc2
    clear hc2
    go_wp2_with fail
    refine ((HB.out v w2 (HV.out.chg HC2.out)).2.1).mono ?_
    rintro e w3 ⟨rfl, hc3⟩
    have HC3 := Lib.hid (HC2.out.trans hc3 (fun _ x => x.elim))
    clear hc3
    go_wp2_with fail
    refine ((HB.out v w3 (HV.out.chg HC3.out)).2.2.1).mono ?_
    rintro e w4 ⟨rfl, hc4⟩
    have HC4 := Lib.hid (HC3.out.trans hc4 (fun _ x => x.elim))
    clear hc4
    go_wp2_with fail
    refine ((HB.out v w4 (HV.out.chg HC4.out)).2.2.2).mono ?_
    rintro e w5 ⟨rfl, hc5⟩
    have HC5 := Lib.hid (HC4.out.trans hc5 (fun _ x => x.elim))
    clear hc5
    go_wp2_with fail
    refine (alive_any w5).mono ?_
    rintro e w6 ⟨rfl, hc6⟩
    have HC6 := Lib.hid (HC5.out.trans hc6 (fun _ x => x.elim))
    clear hc6
    go_wp2_with fail
    go_ret
    exact ⟨rfl, HC6.out⟩
  · have hff : fewV P s = false := by simpa using hfew
    rw [hff] at HF
    clear hfew hff hv
    go_enter Tryd.func5, Tryd.ntmps5
    go_wp2_with fail
    refine HF.out.mono ?_
    rintro e w1 ⟨rfl, rfl⟩
    go_wp2_with fail
    refine (alive_any w1).mono ?_
    rintro e w2 ⟨rfl, hc2⟩
    have HC2 := Lib.hid hc2
    clear hc2
    go_wp2_with fail
    go_ret
    exact ⟨rfl, HC2.out⟩
end Go.Proofs.YtilacamhjibneaaDoor
