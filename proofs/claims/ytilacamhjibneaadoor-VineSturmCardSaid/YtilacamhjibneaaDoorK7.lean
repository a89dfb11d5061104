/- Texts on the vines, laid together (V65, V66, V67, V68, V69, V70). Their conditions are their premises. -/
import Derived.Test.YtilacamhjibneaaDoorK6
import Derived.Test.YtilacamhjibneaaDoorK4
import Derived.Test.YtilacamhjibneaaDoorK5
set_option linter.unusedVariables false
/- The sums of minors over sets of rows; the matrix of what grows, counted; rows that are made one by one. Plain facts and facts on memory. Their conditions are their premises. -/
namespace Go.Proofs.YtilacamhjibneaaDoor
open Go.RowKit

/-- The matrix of what grows, counted. -/
def cntR (V : List (List Nat)) (i : Nat) : List Nat := (List.range V.length).map fun j => (part V j).count i
def cntM (V : List (List Nat)) : List (List Int) := (List.range V.length).map fun i => (cntR V i).map fun (x : Nat) => (x : Int)
theorem cntR_len (V : List (List Nat)) (i : Nat) : (cntR V i).length = V.length := by simp [cntR]
theorem sq_cnt (V : List (List Nat)) : Sq V.length (cntM V) := by
  refine ⟨by simp [cntM], fun i hi => ?_⟩
  unfold row cntM
  rw [List.getElem?_map, List.getElem?_range hi]
  simp [cntR]
theorem ent_cnt (V : List (List Nat)) {i j : Nat} (hi : i < V.length) (hj : j < V.length) : ent (cntM V) i j = ((part V j).count i : Nat) := by
  unfold ent row cntM cntR
  rw [List.getElem?_map, List.getElem?_range hi]
  simp only [Option.map_some, Option.getD_some]
  rw [List.getElem?_map, List.getElem?_map, List.getElem?_range hj]
  rfl
theorem ent_cnt_abs {V : List (List Nat)} (hV : WF V) (i j : Nat) : (ent (cntM V) i j).natAbs ≤ 8 := by
  by_cases h : i < V.length ∧ j < V.length
  · rw [ent_cnt V h.1 h.2]
    have h1 := (hV.part_le j).1
    have h2 := List.count_le_length (l := part V j) (a := i)
    omega
  · rw [ent_out (sq_cnt V) h]; simp
theorem ent_bump {n : Nat} {A : List (List Int)} (h : Sq n A) {c i : Nat} (hc : c < n) (hi : i < n) (x y : Nat) : ent (bump A c i) x y = if c = x ∧ i = y then wrap64 (ent A c i + 1) else ent A x y := by
  unfold bump
  rw [ent_setR _ c i _ (by rw [h.len]; exact hc) (by rw [h.rows c hc]; exact hi)]
theorem grP_eq {n : Nat} {A : List (List Int)} (h : Sq n A) {p : List Nat} {i : Nat} (hi : i < n) (hp : ∀ c ∈ p, c < n) (hp8 : p.length ≤ 8) (h0 : ∀ x, x < n → ent A x i = 0) : ∀ k, k ≤ p.length → Sq n (grP p i A k) ∧ ∀ x y, x < n → y < n → ent (grP p i A k) x y = if y = i then (((p.take k).count x : Nat) : Int) else ent A x y
  | 0, _ => ⟨h, fun x y hx hy => by
    rw [grP]
    split
    · subst_vars; simpa using h0 x hx
    · rfl⟩
  | k + 1, hk => by
    obtain ⟨h1, h2⟩ := grP_eq h hi hp hp8 h0 k (by omega)
    have hc : at0 p k < n := hp _ (at0_mem (by omega))
    refine ⟨h1.set hc _, fun x y hx hy => ?_⟩
    rw [grP, ent_bump h1 hc hi, h2 _ _ hc hi, if_pos rfl, h2 x y hx hy]
    have ht : p.take (k + 1) = p.take k ++ [at0 p k] := by
      rw [at0_lt_of (by omega)]
      exact (List.take_append_getElem (by omega)).symm
    have h3 := List.count_le_length (l := p.take k) (a := at0 p k)
    have h4 : (p.take k).length ≤ 8 := by rw [List.length_take]; omega
    rw [ht, List.count_append]
    by_cases hy : y = i
    · subst hy
      by_cases hx : at0 p k = x
      · subst hx
        rw [if_pos ⟨rfl, rfl⟩, if_pos rfl, wrap_id (by omega)]
        simp
      · rw [if_neg (by omega), if_pos rfl, if_pos rfl]
        simp [hx]
    · rw [if_neg (by omega), if_neg hy, if_neg hy]
theorem grF_eq {V : List (List Nat)} (hV : WF V) : ∀ i, i ≤ V.length → Sq V.length (grF V i) ∧ ∀ x y, x < V.length → y < V.length → ent (grF V i) x y = if y < i then (((part V y).count x : Nat) : Int) else 0
  | 0, _ => by
    refine ⟨⟨by simp [grF], fun i hi => ?_⟩, fun x y hx hy => ?_⟩
    · unfold row grF; rw [List.getElem?_replicate, if_pos hi]; simp
    · rw [if_neg (by omega)]
      unfold ent row grF
      rw [List.getElem?_replicate, if_pos hx]
      simp only [Option.getD_some]
      rw [List.getElem?_replicate, if_pos hy]
      rfl
  | i + 1, hi => by
    obtain ⟨h1, h2⟩ := grF_eq hV i (by omega)
    obtain ⟨h3, h4⟩ := grP_eq h1 (p := part V i) (i := i) (by omega) (hV.part_le i).2 (hV.part_le i).1 (fun x hx => by rw [h2 x i hx (by omega), if_neg (by omega)]) (part V i).length (Nat.le_refl _)
    refine ⟨h3, fun x y hx hy => ?_⟩
    rw [grF, h4 x y hx hy, List.take_length]
    by_cases hyi : y = i
    · subst hyi; rw [if_pos rfl, if_pos (by omega)]
    · rw [if_neg hyi, h2 x y hx hy]
      by_cases hlt : y < i
      · rw [if_pos hlt, if_pos (by omega)]
      · rw [if_neg hlt, if_neg (by omega)]
theorem grows_cnt {V : List (List Nat)} (hV : WF V) : Sq V.length (growsM V) ∧ ent (growsM V) = ent (cntM V) := by
  obtain ⟨h1, h2⟩ := grF_eq hV V.length (Nat.le_refl _)
  refine ⟨h1, ?_⟩
  funext x y
  by_cases h : x < V.length ∧ y < V.length
  · rw [ent_cnt V h.1 h.2]
    show ent (grF V V.length) x y = _
    rw [h2 x y h.1 h.2, if_pos h.2]
  · rw [show ent (growsM V) x y = 0 from ent_out h1 h, ent_out (sq_cnt V) h]
/-- The program's coefficients. -/
def cofs (V : List (List Nat)) : List Int := (List.range V.length).map (coef (ent (cntM V)) V.length)
theorem recV_cofs {V : List (List Nat)} (hV : WF V) : recV V = cofs V := by
  obtain ⟨h1, h2⟩ := grows_cnt hV
  have h3 := (recF_eq hV.le hV.pos h1 (fun i j => by rw [h2]; exact ent_cnt_abs hV i j) V.length (Nat.le_refl _)).2.2
  unfold recV cofs
  rw [h3, h2]

/-- The sum over a list of lists. -/
def sumL (f : List Nat → Int) : List (List Nat) → Int
  | [] => 0
  | S :: L => f S + sumL f L
theorem sumL_append (f : List Nat → Int) : ∀ (L M : List (List Nat)), sumL f (L ++ M) = sumL f L + sumL f M
  | [], M => by simp [sumL]
  | S :: L, M => by rw [List.cons_append, sumL, sumL, sumL_append f L M]; omega
theorem sumL_map (f : List Nat → Int) (g : List Nat → List Nat) : ∀ (L : List (List Nat)), sumL f (L.map g) = sumL (fun S => f (g S)) L
  | [] => rfl
  | S :: L => by rw [List.map_cons, sumL, sumL, sumL_map f g L]
theorem sumL_perm (f : List Nat → Int) {L M : List (List Nat)} (h : L.Perm M) : sumL f L = sumL f M := by
  induction h with
  | nil => rfl
  | cons x _ ih => rw [sumL, sumL, ih]
  | swap x y l => rw [sumL, sumL, sumL, sumL]; omega
  | trans _ _ h1 h2 => rw [h1, h2]
def subs : List Nat → Nat → List (List Nat)
  | [], 0 => [[]]
  | [], _ + 1 => []
  | c :: l, 0 => [[]]
  | c :: l, k + 1 => (subs l k).map (c :: ·) ++ subs l (k + 1)
theorem sumS_subs : ∀ (l : List Nat) (k : Nat) (f : List Nat → Int), sumS f l k = sumL f (subs l k)
  | [], 0, f => by simp [sumS, subs, sumL]
  | [], k + 1, f => rfl
  | c :: l, 0, f => by simp [sumS, subs, sumL]
  | c :: l, k + 1, f => by
    rw [sumS, subs, sumL_append, sumL_map, sumS_subs l k (fun S => f (c :: S)), sumS_subs l (k + 1) f]
def bit1 (st p : Nat) : Bool := st / 2 ^ p % 2 == 1
def bitsF (st : Nat) : Nat → List Nat
  | 0 => []
  | p + 1 => if bit1 st p = true then bitsF st p ++ [p] else bitsF st p
theorem bitsF_lt (st : Nat) : ∀ p, ∀ c ∈ bitsF st p, c < p
  | 0, c, h => by cases h
  | p + 1, c, h => by
    rw [bitsF] at h
    split at h
    · rcases List.mem_append.1 h with h | h
      · have := bitsF_lt st p c h; omega
      · simp at h; omega
    · have := bitsF_lt st p c h; omega
theorem bitsF_len (st : Nat) : ∀ p, (bitsF st p).length ≤ p
  | 0 => Nat.le_refl _
  | p + 1 => by
    have := bitsF_len st p
    rw [bitsF]
    split
    · rw [List.length_append]; simp; exact this
    · omega
theorem subs_bits : ∀ n, n < 7 → ∀ k, k < 7 → (((List.range (2 ^ n)).map (fun st => bitsF st n)).filter (fun S => S.length == k)).isPerm (subs (List.range n) k) = true := by decide +kernel
/-- The sum over the sets below m of the minors of a size. -/
def pS (f : List Nat → Int) (n k : Nat) : Nat → Int
  | 0 => 0
  | m + 1 => pS f n k m + if (bitsF m n).length = k then f (bitsF m n) else 0
theorem pS_sumL (f : List Nat → Int) (n k : Nat) : ∀ m, pS f n k m = sumL f (((List.range m).map (fun st => bitsF st n)).filter (fun S => S.length == k))
  | 0 => rfl
  | m + 1 => by
    rw [pS, pS_sumL f n k m, List.range_succ, List.map_append, List.filter_append, sumL_append]
    congr 1
    by_cases h : (bitsF m n).length = k
    · rw [if_pos h]; simp [h, sumL]
    · rw [if_neg h]; simp [h, sumL]
theorem pS_all (f : List Nat → Int) {n k : Nat} (hn : n ≤ 6) (hk : k ≤ 6) : pS f n k (2 ^ n) = sumS f (List.range n) k := by
  rw [pS_sumL, sumS_subs]
  exact sumL_perm f (List.isPerm_iff.1 (subs_bits n (by omega) k (by omega)))
end Go.Proofs.YtilacamhjibneaaDoor

/- Rows of cells, one block each, that are put behind each other. Their conditions are their premises. -/
namespace Go.Proofs.YtilacamhjibneaaDoor
open Go.RowKit

/-- Row y lies in the block G[y] and holds C y; the slice v holds the rows. -/
structure RG (w0 w : World) (e1 e2 : TypeId) (n : Nat) (C : Nat → List Value) (v : Value) (G : List Nat) : Prop where
  own : w.ownsRow w0.heap.size e1 1 v G.length (G.map (rv n))
  rows : ∀ y (h : y < G.length), Blk w G[y] e2 (C y) ∧ v.ownBlock ≠ some G[y] ∧ w0.heap.size ≤ G[y]
  inj : ∀ y z (hy : y < G.length) (hz : z < G.length), G[y] = G[z] → y = z
  chg : Chg (fun _ => False) w0 w
namespace RG
variable {w0 w w' : World} {e1 e2 : TypeId} {n : Nat} {C : Nat → List Value} {v : Value} {G : List Nat}
theorem kept (h : RG w0 w e1 e2 n C v G) (hc : Chg (fun _ => False) w w') : RG w0 w' e1 e2 n C v G :=
  ⟨owns_chg h.own hc, fun y hy => ⟨hc.blk (h.rows y hy).1 (fun x => x), (h.rows y hy).2⟩, h.inj, h.chg.trans hc (fun _ x => x.elim)⟩
theorem congr {D : Nat → List Value} (h : RG w0 w e1 e2 n C v G) (hD : ∀ y, y < G.length → D y = C y) : RG w0 w e1 e2 n D v G :=
  ⟨h.own, fun y hy => by rw [hD y hy]; exact h.rows y hy, h.inj, h.chg⟩
theorem push {v' : Value} {rb : Nat} {w2 : World} (h : RG w0 w e1 e2 n C v G) (hblk : Blk w rb e2 (C G.length)) (hnew : ∀ y (hy : y < G.length), G[y] ≠ rb) (hne : v.ownBlock ≠ some rb) (hw0 : w0.heap.size ≤ rb)
    (ho : w2.ownsRow w0.heap.size e1 1 v' (G.length + 1) (G.map (rv n) ++ [rv n rb])) (hg : w.grownBy w2 v.ownBlock) (htwo : v'.ownBlock = v.ownBlock ∨ ∃ g, w.heap.size ≤ g ∧ v'.ownBlock = some g) : RG w0 w2 e1 e2 n C v' (G ++ [rb]) := by
  have hc := Chg.of_grownRow hg
  have hown : ∀ k, v.ownBlock = some k → w0.heap.size ≤ k := fun k hk => (h.own.lt _ hk).1
  have key : ∀ g, g < w.heap.size → v.ownBlock ≠ some g → v'.ownBlock ≠ some g := fun g hg1 hg2 e => by
    rcases htwo with h1 | ⟨g', h1, h2⟩
    · rw [h1] at e; exact hg2 e
    · rw [h2] at e; cases e; omega
  refine ⟨?_, fun y hy => ?_, fun y z hy hz e => ?_, h.chg.trans hc (fun k hk => .inr (hown k hk.symm))⟩
  · rw [List.length_append, List.map_append]
    exact ho
  · by_cases hyl : y < G.length
    · rw [List.getElem_append_left hyl]
      obtain ⟨h1, h2, h3⟩ := h.rows y hyl
      exact ⟨hc.blk h1 (fun e => h2 e.symm), key _ h1.lt h2, h3⟩
    · obtain rfl : y = G.length := by simp at hy; omega
      have he : (G ++ [rb])[G.length]'hy = rb := by simp
      rw [he]
      exact ⟨hc.blk hblk (fun e => hne e.symm), key _ hblk.lt hne, hw0⟩
  · simp only [List.length_append, List.length_singleton] at hy hz
    by_cases hyl : y < G.length
    · by_cases hzl : z < G.length
      · rw [List.getElem_append_left hyl, List.getElem_append_left hzl] at e
        exact h.inj y z hyl hzl e
      · obtain rfl : z = G.length := by omega
        rw [List.getElem_append_left hyl] at e
        simp at e
        exact absurd e (hnew y hyl)
    · obtain rfl : y = G.length := by omega
      by_cases hzl : z < G.length
      · rw [List.getElem_append_left hzl] at e
        simp at e
        exact absurd e.symm (hnew z hzl)
      · omega
theorem set (h : RG w0 w e1 e2 n C v G) {y : Nat} (hy : y < G.length) (j : Nat) (x : Value) : RG w0 (w.setCell ⟨G[y], j, none⟩ x) e1 e2 n (fun z => if z = y then (C y).set j x else C z) v G := by
  have hc : Chg (fun k => k = G[y]) w (w.setCell ⟨G[y], j, none⟩ x) := (Chg.refl (fun k => k = G[y]) w).setCell (a := ⟨G[y], j, none⟩) (.inl rfl) x
  refine ⟨owns_chgS h.own hc (fun k hk e => (h.rows y hy).2.1 (by rw [hk, e])), fun z hz => ⟨?_, (h.rows z hz).2⟩, h.inj, h.chg.trans hc (fun k hk => .inr (by rw [hk]; exact (h.rows y hy).2.2))⟩
  by_cases hzy : z = y
  · subst hzy
    simp only [if_pos]
    exact (h.rows z hz).1.set j x
  · simp only [if_neg hzy]
    exact (h.rows z hz).1.setOther (a := ⟨G[y], j, none⟩) (fun e => hzy (h.inj z y hz hy e.symm)) x
theorem form (h : RG w0 w e1 e2 n C v G) (h0 : 0 < G.length) : ∃ g c, v = .slice (some ⟨g, 0, none⟩) G.length c ∧ w0.heap.size ≤ g ∧ ∀ y (hy : y < G.length), w.cell? ⟨g, y, none⟩ = some (rv n G[y]) := by
  obtain ⟨g, c, rfl, hg, hq⟩ := QueB.of_owns h.own h0
  refine ⟨g, c, rfl, hg, fun y hy => ?_⟩
  have := hq.at_ y (rv n G[y]) (by rw [List.getElem?_map, List.getElem?_eq_getElem hy]; rfl)
  rwa [Nat.zero_add] at this
end RG
theorem info29b : (Tryd.prog.info? 29).map (fun i => (i.zero, i.size, i.bytes)) = some (some (.slice none 0 0), 1, 24) := by kernel_rfl
/-- A row is put behind the rows. -/
theorem wpList_rg {w : World} {ops : Array Oper} {rest : List Oper} {o : Oper} {a : Act} {Q : Exit → Act → World → Prop} (hgd : o.guard = none) (sl x : Operand) (t e1 : TypeId)
    (ho : o.op = .call { callee := .builtin .append, args := #[sl, x], argTypes := #[t, t] }) (ht : Tryd.prog.underlying t = some (.slice e1)) (hi : (Tryd.prog.info? e1).map (fun i => (i.zero, i.size, i.bytes)) = some (some (.slice none 0 0), 1, 24))
    {w0 : World} {e2 : TypeId} {n : Nat} {C : Nat → List Value} {v : Value} {G : List Nat} {rb g3 : Nat} (h : RG w0 w e1 e2 n C v G) (hs : a.eval sl = v) (hx : a.eval x = .slice (some ⟨g3, 0, none⟩) 1 1) (hcell : w.cell? ⟨g3, 0, none⟩ = some (rv n rb))
    (hblk : Blk w rb e2 (C G.length)) (hnew : ∀ y (hy : y < G.length), G[y] ≠ rb) (hne : v.ownBlock ≠ some rb) (hw0 : w0.heap.size ≤ rb) (hl : G.length ≤ 1000)
    (hK : ∀ v' w', RG w0 w' e1 e2 n C v' (G ++ [rb]) → wpList Tryd.prog ops Q rest (a.put o.dst v') w') : wpList Tryd.prog ops Q (o :: rest) a w := by
  obtain ⟨i0, h0, h1, h2, h3⟩ := info_parts hi
  refine wpList_append_two hgd sl x t ho w0.heap.size e1 i0 _ 1 24 ht h0 h1 h2 h3 rfl (by decide) v G.length _ hs h.own ⟨g3, 0, none⟩ 1 1 [rv n rb] hx rfl (fun j u hj => ?_) (by intro u hu; simp at hu; subst hu; rfl) (by unfold maxLen; omega) (by omega) h.chg.size ?_
  · cases j with
    | zero =>
      simp at hj
      subst hj
      exact hcell
    | succ j => simp at hj
  · intro v' w' r1 r2 r3
    exact hK v' w' (h.push hblk hnew hne hw0 r1 r2 r3)
end Go.Proofs.YtilacamhjibneaaDoor

/- The reference's Recurrence, walked. Its conditions are its premises. -/
namespace Go.Proofs.YtilacamhjibneaaDoor
open Go.RowKit

def rowS (V : List (List Nat)) (p q k : Nat) : List Nat := (List.range V.length).map fun j => if j < q then (part V j).count p else if j = q then ((part V q).take k).count p else 0
theorem rowS_len (V : List (List Nat)) (p q k : Nat) : (rowS V p q k).length = V.length := by simp [rowS]
theorem rowS_at (V : List (List Nat)) (p q k : Nat) {j : Nat} (hj : j < V.length) : at0 (rowS V p q k) j = if j < q then (part V j).count p else if j = q then ((part V q).take k).count p else 0 := by
  unfold at0 rowS
  rw [List.getElem?_map, List.getElem?_range hj]
  rfl
theorem nat_ext {l m : List Nat} (hl : l.length = m.length) (h : ∀ j, j < l.length → at0 l j = at0 m j) : l = m := by
  refine List.ext_getElem hl (fun j h1 h2 => ?_)
  have := h j h1
  rwa [at0_lt_of h1, at0_lt_of h2] at this
theorem rowS_zero (V : List (List Nat)) (p : Nat) : rowS V p 0 0 = List.replicate V.length 0 := by
  refine nat_ext (by simp [rowS_len]) (fun j hj => ?_)
  rw [rowS_len] at hj
  rw [rowS_at V p 0 0 hj, if_neg (by omega)]
  unfold at0
  rw [List.getElem?_replicate, if_pos hj]
  split <;> simp
theorem rowS_next (V : List (List Nat)) (p q : Nat) : rowS V p (q + 1) 0 = rowS V p q (part V q).length := by
  refine nat_ext (by simp [rowS_len]) (fun j hj => ?_)
  rw [rowS_len] at hj
  rw [rowS_at _ _ _ _ hj, rowS_at _ _ _ _ hj, List.take_length]
  by_cases h1 : j < q
  · rw [if_pos (by omega), if_pos h1]
  · by_cases h2 : j = q
    · subst h2; rw [if_pos (by omega), if_neg h1, if_pos rfl]
    · rw [if_neg (by omega), if_neg h1, if_neg h2]
      split <;> simp
theorem rowS_done (V : List (List Nat)) (p : Nat) : rowS V p V.length 0 = cntR V p := by
  refine nat_ext (by simp [rowS_len, cntR_len]) (fun j hj => ?_)
  rw [rowS_len] at hj
  rw [rowS_at _ _ _ _ hj, if_pos hj]
  unfold at0 cntR
  rw [List.getElem?_map, List.getElem?_range hj]
  rfl
theorem rowS_step (V : List (List Nat)) (p q k : Nat) (hk : k < (part V q).length) (hq : q < V.length) : rowS V p q (k + 1) = if (part V q)[k] = p then (rowS V p q k).set q (at0 (rowS V p q k) q + 1) else rowS V p q k := by
  have ht : (part V q).take (k + 1) = (part V q).take k ++ [(part V q)[k]] := (List.take_append_getElem hk).symm
  by_cases h : (part V q)[k] = p
  · rw [if_pos h]
    refine nat_ext (by simp [rowS_len]) (fun j hj => ?_)
    rw [rowS_len] at hj
    rw [at0_set _ _ _ _ (by rw [rowS_len]; exact hq), rowS_at _ _ _ _ hj, rowS_at _ _ _ _ hj, rowS_at _ _ _ _ hq, ht, List.count_append, h]
    by_cases hqj : q = j
    · subst hqj; simp
    · rw [if_neg hqj]
      have : ¬ j = q := fun e => hqj e.symm
      rw [if_neg this, if_neg this]
  · rw [if_neg h]
    refine nat_ext (by simp [rowS_len]) (fun j hj => ?_)
    rw [rowS_len] at hj
    rw [rowS_at _ _ _ _ hj, rowS_at _ _ _ _ hj, ht, List.count_append]
    have : List.count p [(part V q)[k]] = 0 := by simp [h]
    rw [this]
    rfl
theorem rowS_le (V : List (List Nat)) (hV : WF V) (p q k j : Nat) : at0 (rowS V p q k) j ≤ 8 := by
  by_cases hj : j < V.length
  · rw [rowS_at _ _ _ _ hj]
    split
    · exact Nat.le_trans List.count_le_length (hV.part_le j).1
    · split
      · refine Nat.le_trans List.count_le_length ?_
        rw [List.length_take]
        have := (hV.part_le q).1
        omega
      · omega
  · unfold at0
    rw [List.getElem?_eq_none (by rw [rowS_len]; omega)]
    simp

theorem test_bit (m p : Nat) : (((m : Int) / 2 ^ p).tmod 2 == 1) = bit1 m p := by
  have h1 : ((m : Int) / 2 ^ p) = ((m / 2 ^ p : Nat) : Int) := by
    rw [Int.natCast_ediv, Int.natCast_pow]
    rfl
  have h2 : (((m / 2 ^ p : Nat) : Int)).tmod 2 = ((m / 2 ^ p % 2 : Nat) : Int) := by
    rw [Int.tmod_eq_emod_of_nonneg (Int.natCast_nonneg _)]
    omega
  unfold bit1
  rw [h1, h2]
  by_cases h : m / 2 ^ p % 2 = 1
  · rw [h]; rfl
  · have h3 : m / 2 ^ p % 2 = 0 := by omega
    rw [h3]; rfl
def fD (V : List (List Nat)) (S : List Nat) : Int := det (ent (cntM V)) S S
/-- What lies in the list of the coefficients when the sets below m are done. -/
def outS (V : List (List Nat)) (m : Nat) : List Int := (List.range V.length).map fun j => sgn j * pS (fD V) V.length (j + 1) m
theorem bits_some : ∀ n, n < 7 → ∀ m, m < 64 → m < 2 ^ n → 1 ≤ m → bitsF m n ≠ [] := by decide +kernel
theorem fD_bound (V : List (List Nat)) (hV : WF V) (S : List Nat) (h : S.length ≤ 6) : (fD V S).natAbs ≤ 30840979456 :=
  Nat.le_trans (det_bound (fun i j => ent_cnt_abs hV i j) S S (by omega)) (pow_56 h)
theorem outS_bound (V : List (List Nat)) (hV : WF V) (m k : Nat) (hm : m ≤ 64) : (pS (fD V) V.length k m).natAbs ≤ m * 30840979456 := by
  have hn := hV.le
  have key : ∀ m, (pS (fD V) V.length k m).natAbs ≤ m * 30840979456 := by
    intro m
    induction m with
    | zero => simp [pS]
    | succ m ih =>
      rw [pS]
      have h1 := fD_bound V hV (bitsF m V.length) (Nat.le_trans (bitsF_len m _) hn)
      split <;> omega
  exact key m
theorem outS_next (V : List (List Nat)) (m : Nat) {j : Nat} (hj : (bitsF m V.length).length = j + 1) (hjn : j < V.length) : outS V (m + 1) = (outS V m).set j (sgn j * pS (fD V) V.length (j + 1) m + sgn j * fD V (bitsF m V.length)) := by
  refine List.ext_getElem (by simp [outS]) (fun i h1 h2 => ?_)
  have hi : i < V.length := by simpa [outS] using h1
  rw [List.getElem_set]
  unfold outS
  simp only [List.getElem_map, List.getElem_range, pS]
  by_cases hij : j = i
  · subst hij
    rw [if_pos rfl, if_pos hj, Int.mul_add]
  · rw [if_neg hij, if_neg (by omega), Int.add_zero]
theorem outS_done (V : List (List Nat)) (hV : WF V) : outS V (2 ^ V.length) = cofs V := by
  have hn := hV.le
  unfold outS cofs
  refine List.map_congr_left (fun j hj => ?_)
  have hj := List.mem_range.1 hj
  rw [pS_all (fD V) hn (by omega)]
  rfl
theorem outS_at (V : List (List Nat)) (m : Nat) {j : Nat} (hj : j < V.length) : (ivL (outS V m))[j]? = some (.int .i64 (sgn j * pS (fD V) V.length (j + 1) m)) := by
  unfold ivL outS
  rw [List.getElem?_map, List.getElem?_map, List.getElem?_range hj]
  rfl
theorem ints_of_blk {w : World} {g : Nat} {X : List Int} (h : Blk w g 3 (ivL X)) : IntsAt w g 0 X := fun k hk => by
  rw [Nat.zero_add]
  refine h.cell_some ?_
  unfold ivL
  rw [List.getElem?_map, List.getElem?_eq_getElem hk]
  rfl
theorem outS_len (V : List (List Nat)) (m : Nat) : (outS V m).length = V.length := by simp [outS]
theorem sgn_par (j : Nat) : sgn j = if j % 2 = 0 then 1 else -1 := by
  induction j with
  | zero => rfl
  | succ j ih =>
    rw [sgn_succ, ih]
    by_cases h : j % 2 = 0
    · rw [if_pos h, if_neg (by omega)]
    · rw [if_neg h, if_pos (by omega)]; rfl
theorem outS_one (V : List (List Nat)) : ivL (outS V 1) = nv (List.replicate V.length 0) := by
  have hb : ∀ n, bitsF 0 n = [] := by
    intro n
    induction n with
    | zero => rfl
    | succ n ih => rw [bitsF, ih]; simp [bit1]
  have h : outS V 1 = List.replicate V.length 0 := by
    unfold outS
    rw [List.map_congr_left (g := fun _ => (0 : Int)) (fun j _ => by simp [pS, hb]), List.map_const']
    simp
  rw [h]
  simp [ivL, nv]

set_option maxRecDepth 100000 in
set_option maxHeartbeats 1000000 in
theorem rrecurrence_ok (V : List (List Nat)) (hV : WF V) (t : List Nat) (ht : ∀ c ∈ t, c < V.length) (hl : t.length ≤ 30) (b off cap : Nat) (w : World) (hv : VAt w b off V) :
    Calls Tryd.prog 20 #[.slice (some ⟨b, off, none⟩) V.length cap, .string (str t)] w fun e w' => (∃ g c, e = .returned (.tuple #[.slice (some ⟨g, 0, none⟩) V.length c, .int .i64 0]) ∧ IntsAt w' g 0 (cofs V)) ∧ Chg (fun _ => False) w w' := by
  have hn6 := hV.le
  have hn1 := hV.pos
  have hmi := make_ints V.length (by omega)
  have HS := Lib.hid (rshoot_ok V hV t ht hl b off cap w hv)
  have HV := Lib.hid hv; have HWF := Lib.hid hV
  clear hv hV ht hl
  go_enter Tryd.func20, Tryd.ntmps20
  go_wp2_with fail
  refine HS.out.mono ?_
  rintro e w1 ⟨rfl, rfl⟩
  go_wp2_with fail
  go_loopg [9, 8] V.length (fun gm pv mv wr => ∃ (p : Nat) (G : List Nat), p ≤ V.length ∧ gm = V.length - p ∧ pv = .int .i64 p ∧ G.length = p ∧ RG w1 wr 29 3 V.length (fun y => nv (cntR V y)) mv G)
  case atStart => exact ⟨0, [], by omega, by omega, rfl, rfl, World.ownsRow_nil w1 _ 29 1, fun y hy => by simp at hy, fun y z hy => by simp at hy, Chg.refl _ _⟩
  case round =>
    obtain ⟨p, G, hp, rfl, rfl, hG, hrg⟩ := hrel
    have HG := Lib.hid hG; have HRG := Lib.hid hrg
    clear hG hrg
    generalize u8 = mv at HRG ⊢
    by_cases hpn : p < V.length
    · have d0 : decide (p < V.length) = true := by simpa using hpn
      obtain ⟨rb, hrb⟩ : ∃ rb, wr.heap.size = rb := ⟨_, rfl⟩
      have HRB := Lib.hid hrb
      have HB0 := made_ints V.length wr
      rw [hrb] at HB0
      have HBK0 : Hid (Blk (wr.alloc (.cells (Array.replicate V.length (.int .i64 0)) 3)) rb 3 (nv (rowS V p 0 0))) := Lib.hid (by rw [rowS_zero]; exact HB0)
      have HC0 := Lib.hid ((Chg.refl (fun _ => False) wr).alloc (.cells (Array.replicate V.length (.int .i64 0)) 3))
      go_wp2_with fail
      clear HB0
      clear hrb
      obtain ⟨wo, hwo⟩ : ∃ wo : World, wo = wr := ⟨_, rfl⟩
      rw [← hwo] at HRG HRB HC0 HBK0 ⊢
      clear hwo
      generalize wo.alloc (.cells (Array.replicate V.length (.int .i64 0)) 3) = W0 at HC0 HBK0 ⊢
      go_loopg [11] V.length (fun gm qv wr => ∃ q : Nat, q ≤ V.length ∧ gm = V.length - q ∧ qv = .int .i64 q ∧ Blk wr rb 3 (nv (rowS V p q 0)) ∧ Chg (fun _ => False) wo wr)
      case atStart => exact ⟨0, by omega, by omega, rfl, HBK0.out, HC0.out⟩
      case round =>
        clear HBK0 HC0
        obtain ⟨q, hq, rfl, rfl, hbk, hc⟩ := hrel
        have HBK := Lib.hid hbk; have HC := Lib.hid hc
        clear hbk hc
        by_cases hqn : q < V.length
        · have d1 : decide (q < V.length) = true := by simpa using hqn
          have hp8 := (HWF.out.part_le q).1
          have HP := Lib.hid (HWF.out.part_le q).2
          have HSTEP := Lib.hid (fun k hk => rowS_step V p q k hk hqn)
          have HLE := Lib.hid (fun k => rowS_le V HWF.out p q k q)
          have HNX := Lib.hid (rowS_next V p q)
          have HLN := Lib.hid (fun k => rowS_len V p q k)
          go_wp2_with fail
          go_loopg [12] (part V q).length (fun gm kv wr => ∃ k : Nat, k ≤ (part V q).length ∧ gm = (part V q).length - k ∧ kv = .int .i64 k ∧ Blk wr rb 3 (nv (rowS V p q k)) ∧ Chg (fun _ => False) wo wr)
          case atStart => exact ⟨0, by omega, by omega, rfl, HBK.out, HC.out⟩
          case round =>
            clear HBK HC
            obtain ⟨k, hk, rfl, rfl, hbk, hc⟩ := hrel
            have HBK := Lib.hid hbk; have HC := Lib.hid hc
            clear hbk hc
            have c0 := (HV.out.chg (HRG.out.chg.trans HC.out (fun _ x => x.elim)) (fun x => x)) q hqn
            rw [← part_lt hqn] at c0
            have hsz := str_size (part V q)
            by_cases hkl : k < (part V q).length
            · have d3 : decide (k < (part V q).length) = true := by simpa using hkl
              have hcn := HP.out _ (List.getElem_mem hkl)
              have hidx := index_chr hkl (by omega)
              have hu8 := u8_chr (part V q)[k] (by omega)
              have HSK := Lib.hid (HSTEP.out k hkl)
              have k1 := HBK.out.cell_some (nv_at (i := q) (by rw [HLN.out]; exact hqn))
              have f1 := HBK.out.free q
              have hle := HLE.out k
              obtain ⟨x, hx⟩ : ∃ x, at0 (rowS V p q k) q = x := ⟨_, rfl⟩
              rw [hx] at k1 hle HSK
              have hwx : IntKind.i64.wrap ((x : Int) + 1) = ((x + 1 : Nat) : Int) := IntWalk.i64_in _ (by omega)
              obtain ⟨L, hL⟩ : ∃ L, part V q = L := ⟨_, rfl⟩
              have HL := Lib.hid hL
              simp only [hL] at c0 hsz hkl d3 hidx hu8 HSK hcn hp8 hk
              obtain ⟨d, hd⟩ : ∃ d, L[k] = d := ⟨_, rfl⟩
              rw [hd] at hcn hu8 HSK
              simp only [hd] at hidx
              by_cases hdp : d = p
              · subst hdp
                rw [if_pos rfl] at HSK
                clear hd hL hx
                go_wp2_with fail
                go_roundg ((part V q).length - (k + 1))
                case measure => have h : (part V q).length = L.length := by rw [HL.out]
                                omega
                case rel => exact ⟨k + 1, by rw [HL.out]; omega, rfl, by go_num, by rw [HSK.out, nv_set]; exact HBK.out.set q _, HC.out.setCell (.inr (by rw [HRB.out]; exact Nat.le_refl _)) _⟩
              · rw [if_neg hdp] at HSK
                clear hd hL hx
                have hdp' : ¬ (d : Int) = (p : Int) := by omega
                go_wp2_with fail
                go_roundg ((part V q).length - (k + 1))
                case measure => have h : (part V q).length = L.length := by rw [HL.out]
                                omega
                case rel => exact ⟨k + 1, by rw [HL.out]; omega, rfl, by go_num, by rw [HSK.out]; exact HBK.out, HC.out⟩
            · obtain rfl : k = (part V q).length := by omega
              have d3 : decide ((part V q).length < (part V q).length) = false := by simp
              go_wp2_with fail
              go_roundg (V.length - (q + 1))
              case measure => omega
              case rel => exact ⟨q + 1, by omega, rfl, by go_num, by rw [HNX.out]; exact HBK.out, HC.out⟩
        · obtain rfl : q = V.length := by omega
          rw [rowS_done] at HBK
          obtain ⟨g3, hg3⟩ : ∃ g3, wr.heap.size = g3 := ⟨_, rfl⟩
          have HA := Lib.hid (HRG.out.kept (HC.out.trans ((Chg.refl (fun _ => False) wr).alloc (.cells #[rv V.length rb] 29)) (fun _ x => x.elim)))
          have HX := Lib.hid ((Blk.new wr #[rv V.length rb] 29).cell_some (i := 0) rfl)
          rw [hg3] at HX
          have HBA := Lib.hid (HBK.out.alloc (.cells #[rv V.length rb] 29))
          have HNW := Lib.hid (show ∀ y (hy : y < G.length), G[y] ≠ rb from fun y hy e => by
            have h1 := (HRG.out.rows y hy).1.lt
            have h2 := HRB.out
            omega)
          have HNE := Lib.hid (show mv.ownBlock ≠ some rb from fun e => by
            have h1 := (HRG.out.own.lt rb e).2
            have h2 := HRB.out
            omega)
          have HW0 := Lib.hid (show w1.heap.size ≤ rb by rw [← HRB.out]; exact HRG.out.chg.size)
          unfold rv at HX
          go_wp2_with (at_builtin; refine wpList_rg rfl (.tmp 63) (.tmp 65) 62 29 rfl Tryd.underlying62 info29b (rb := rb) (g3 := g3) HA.out (by simp [Act.eval]) (by simp [Act.eval]) HX.out (by rw [HG.out]; exact HBA.out) HNW.out HNE.out HW0.out (by rw [HG.out]; omega) ?_; intro v' w2 hrg2)
          have HR2 := Lib.hid hrg2
          clear hrg2 hg3
          go_roundg (V.length - (p + 1))
          case measure => omega
          case rel => exact ⟨p + 1, G ++ [rb], by omega, rfl, by go_num, by rw [List.length_append, HG.out]; rfl, HR2.out⟩
    · obtain rfl : p = V.length := by omega
      obtain ⟨mg, mc, rfl, _, hmr⟩ := HRG.out.form (by rw [HG.out]; omega)
      rw [HG.out]
      have hmat : MatI wr mg V.length (cntM V) := fun i hi => ⟨G[i]'(by rw [HG.out]; exact hi), V.length, hmr i (by rw [HG.out]; exact hi), fun j hj => by
        have h1 := (HRG.out.rows i (by rw [HG.out]; exact hi)).1.cell_some (nv_at (N := cntR V i) (i := j) (by rw [cntR_len]; exact hj))
        rw [h1, ent_cnt V hi hj]
        unfold at0 cntR
        rw [List.getElem?_map, List.getElem?_range hj]
        rfl⟩
      have HMAT := Lib.hid hmat
      have HCR := Lib.hid HRG.out.chg
      have HBO := made_ints V.length wr
      have HCO := Lib.hid ((Chg.refl (fun _ => False) wr).alloc (.cells (Array.replicate V.length (.int .i64 0)) 3))
      obtain ⟨bo, hbo⟩ : ∃ bo, wr.heap.size = bo := ⟨_, rfl⟩
      have HBOE := Lib.hid hbo
      rw [hbo] at HBO
      have HB0 := Lib.hid HBO
      go_wp2_with fail
      clear HBO hbo hmr hmat
      obtain ⟨wq, hwq⟩ : ∃ wq : World, wq = wr := ⟨_, rfl⟩
      rw [← hwq] at HMAT HCR HBOE HCO HB0 ⊢
      clear hwq HRG
      generalize wq.alloc (.cells (Array.replicate V.length (.int .i64 0)) 3) = W0 at HCO HB0 ⊢
      obtain ⟨N2, hN2⟩ : ∃ N2, 2 ^ V.length = N2 := ⟨_, rfl⟩
      have HN2 := Lib.hid hN2
      have hN64 : N2 ≤ 64 := by rw [← hN2]; exact Nat.le_trans (Nat.pow_le_pow_right (by omega) hn6) (by decide)
      have hN1 : 1 ≤ N2 := by rw [← hN2]; exact Nat.one_le_two_pow
      have HPW := Lib.hid (show wrap64 ((2 : Int) ^ V.length) = (N2 : Int) by rw [i64_pow (by omega), hN2])
      clear hN2
      go_loopg [14] N2 (fun gm sv w2 => ∃ m : Nat, 1 ≤ m ∧ m ≤ N2 ∧ gm = N2 + 1 - m ∧ sv = .int .i64 (m : Int) ∧ Blk w2 bo 3 (ivL (outS V m)) ∧ Chg (fun _ => False) wq w2)
      case atStart => exact ⟨1, by omega, by omega, rfl, rfl, by rw [outS_one]; exact HB0.out, HCO.out⟩
      case round =>
        clear HB0 HCO
        obtain ⟨m, hm1, hm, rfl, rfl, hbk, hc⟩ := hrel
        have HBK := Lib.hid hbk; have HC := Lib.hid hc
        clear hbk hc
        obtain ⟨w9, hw9⟩ : ∃ w9 : World, w9 = wr := ⟨_, rfl⟩
        rw [← hw9] at HBK HC ⊢
        clear hw9
        by_cases hmN : m < N2
        · have dN : (m : Int) < wrap64 ((2 : Int) ^ V.length) := by rw [HPW.out]; omega
          go_wp2_with fail
          go_loopg [16, 15] V.length (fun gm pv lv w2 => ∃ p : Nat, p ≤ V.length ∧ gm = V.length - p ∧ pv = .int .i64 (p : Int) ∧ w2.ownsRow w9.heap.size 3 1 lv (bitsF m p).length (nv (bitsF m p)) ∧ Chg (fun _ => False) w9 w2)
          case atStart => exact ⟨0, by omega, by omega, rfl, World.ownsRow_nil w9 _ 3 1, Chg.refl _ _⟩
          case round =>
            obtain ⟨p, hp, rfl, rfl, how, hc2⟩ := hrel
            have HOW := Lib.hid how; have HC2 := Lib.hid hc2
            clear how hc2
            by_cases hpn : p < V.length
            · have d1 : decide (p < V.length) = true := by simpa using hpn
              have htb := test_bit m p
              have HBL := Lib.hid (bitsF_len m p)
              by_cases hbit : bit1 m p = true
              · rw [hbit] at htb
                have HNX := Lib.hid (show bitsF m (p + 1) = bitsF m p ++ [p] by rw [bitsF, if_pos hbit])
                obtain ⟨g3, hg3⟩ : ∃ g3, wr.heap.size = g3 := ⟨_, rfl⟩
                have HOA := Lib.hid (owns_chg HOW.out ((Chg.refl (fun _ => False) wr).alloc (.cells #[.int .i64 (p : Int)] 3)))
                have HXX : Hid (NatsAt (wr.alloc (.cells #[.int .i64 (p : Int)] 3)) g3 0 [p]) := Lib.hid (by
                  rw [← hg3]
                  intro k hk
                  obtain rfl : k = 0 := by simpa using hk
                  exact (Blk.new wr #[.int .i64 (p : Int)] 3).cell_some (i := 0) rfl)
                have HCA := Lib.hid (HC2.out.alloc (.cells #[.int .i64 (p : Int)] 3))
                clear hbit
                go_wp2_with (at_builtin; refine wpList_app rfl (.tmp 85) (.tmp 87) rfl w9.heap.size u15 (bitsF m p) [p] (by simp [Act.eval]) HOA.out (some ⟨g3, 0, none⟩) 1 (by simp [Act.eval]) (.inr ⟨_, _, rfl, HXX.out⟩) (by have := HBL.out; simp; omega) HCA.out.size ?_; intro v2 w2 hown2 hc2)
                clear hg3
                have HC3 := Lib.hid (chg_new (HCA.out.mono (fun _ x => x.elim)) hc2)
                have HO3 := Lib.hid hown2
                clear hown2 hc2
                go_roundg (V.length - (p + 1))
                case measure => omega
                case rel => exact ⟨p + 1, by omega, rfl, by go_num, by rw [HNX.out]; exact HO3.out, HC3.out⟩
              · rw [show bit1 m p = false by simpa using hbit] at htb
                have HNX := Lib.hid (show bitsF m (p + 1) = bitsF m p by rw [bitsF, if_neg hbit])
                clear hbit
                go_wp2_with fail
                go_roundg (V.length - (p + 1))
                case measure => omega
                case rel => exact ⟨p + 1, by omega, rfl, by go_num, by rw [HNX.out]; exact HOW.out, HC2.out⟩
            · obtain rfl : p = V.length := by omega
              have hm2 : m < 2 ^ V.length := by rw [HN2.out]; exact hmN
              obtain ⟨ao, lg, lo, lc, rfl, l1, l2, l3⟩ := sln_of_owns HOW.out
              have hsl : SlN wr (.slice ao (bitsF m V.length).length lc) (bitsF m V.length) := ⟨ao, lg, lo, lc, rfl, l1, l2, l3⟩
              have hbl := bitsF_len m V.length
              have HD := Lib.hid (rdet_any (cntM V) V.length hn6 (fun i j => ent_cnt_abs HWF.out i j) mg mc (bitsF m V.length) (bitsF m V.length) rfl (by omega) (fun r hr => bitsF_lt m _ r hr) (fun r hr => bitsF_lt m _ r hr) _ _ wr (HMAT.out.chg (HC.out.trans HC2.out (fun _ x => x.elim))) hsl hsl)
              obtain ⟨j, hj⟩ : ∃ j, (bitsF m V.length).length = j + 1 := ⟨(bitsF m V.length).length - 1, by
                have := bits_some V.length (by omega) m (by omega) hm2 hm1
                have := List.length_pos_iff.2 this
                omega⟩
              have HNX := Lib.hid (outS_next V m hj (by omega))
              have HBD := Lib.hid (outS_bound V HWF.out m (j + 1) (by omega))
              have HDB := Lib.hid (fD_bound V HWF.out (bitsF m V.length) (by omega))
              rw [hj] at HD ⊢
              have hjn : j < V.length := by omega
              have HDE : Hid (det (ent (cntM V)) (bitsF m V.length) (bitsF m V.length) = fD V (bitsF m V.length)) := Lib.hid rfl
              rw [HDE.out] at HD
              obtain ⟨d, hd⟩ : ∃ d, fD V (bitsF m V.length) = d := ⟨_, rfl⟩
              rw [hd] at HD HNX HDB
              obtain ⟨y, hy⟩ : ∃ y, pS (fD V) V.length (j + 1) m = y := ⟨_, rfl⟩
              rw [hy] at HNX HBD
              have HY := Lib.hid hy
              have k1 := HC2.out.blk HBK.out (fun x => x)
              have HBK2 := Lib.hid k1
              clear hd hy HOW l1 l2 l3 hsl hj hbl k1 HDE
              go_wp2_with fail
              refine HD.out.mono ?_
              rintro e w3 ⟨rfl, hc3⟩
              have HB3 := Lib.hid (hc3.blk HBK2.out (fun x => x))
              have HC3 := Lib.hid ((HC.out.trans HC2.out (fun _ x => x.elim)).trans hc3 (fun _ x => x.elim))
              clear hc3
              have c1 := HB3.out.cell_some (outS_at V m hjn)
              have f1 := HB3.out.free j
              rw [HY.out] at c1
              have hlen0 := outS_len V m
              by_cases hpar : j % 2 = 0
              · have hsg : sgn j = 1 := by rw [sgn_par, if_pos hpar]
                rw [hsg, Int.one_mul] at c1
                rw [hsg, Int.one_mul, Int.one_mul] at HNX
                have tst : (((j : Int) + 1) % 2 == 0) = false := by simp; omega
                have hsum : wrap64 (y + d) = y + d := wrap_id (by have := HBD.out; have := HDB.out; omega)
                have HSET := Lib.hid (show Blk (w3.setCell ⟨bo, j, none⟩ (.int .i64 (y + d))) bo 3 (ivL (outS V (m + 1))) by rw [HNX.out, ivL_set]; exact HB3.out.set j _)
                have HCS := Lib.hid (HC3.out.setCell (a := ⟨bo, j, none⟩) (.inr (by rw [HBOE.out]; exact Nat.le_refl _)) (.int .i64 (y + d)))
                clear hsg
                go_wp2_with fail
                go_roundg (N2 + 1 - (m + 1))
                case measure => omega
                case rel => exact ⟨m + 1, by omega, by omega, rfl, by go_num, HSET.out, HCS.out⟩
              · have hsg : sgn j = -1 := by rw [sgn_par, if_neg hpar]
                rw [hsg] at c1 HNX
                have tst : (((j : Int) + 1) % 2 == 0) = true := by simp; omega
                have hneg : wrap64 (-d) = -d := wrap_id (by have := HDB.out; omega)
                have hsum : wrap64 (-y + -d) = -y + -d := wrap_id (by have := HBD.out; have := HDB.out; omega)
                rw [show (-1 : Int) * y = -y by omega] at c1
                rw [show (-1 : Int) * y + -1 * d = -y + -d by omega] at HNX
                have HSET := Lib.hid (show Blk (w3.setCell ⟨bo, j, none⟩ (.int .i64 (-y + -d))) bo 3 (ivL (outS V (m + 1))) by rw [HNX.out, ivL_set]; exact HB3.out.set j _)
                have HCS := Lib.hid (HC3.out.setCell (a := ⟨bo, j, none⟩) (.inr (by rw [HBOE.out]; exact Nat.le_refl _)) (.int .i64 (-y + -d)))
                clear hsg
                go_wp2_with fail
                go_roundg (N2 + 1 - (m + 1))
                case measure => omega
                case rel => exact ⟨m + 1, by omega, by omega, rfl, by go_num, HSET.out, HCS.out⟩
        · obtain rfl : m = N2 := by omega
          have dN : ¬ (m : Int) < wrap64 ((2 : Int) ^ V.length) := by rw [HPW.out]; omega
          go_wp2_with fail
          go_ret2
          refine ⟨⟨bo, ⟨V.length, rfl⟩, ?_⟩, HCR.out.trans HC.out (fun _ x => x.elim)⟩
          rw [← outS_done V HWF.out, HN2.out]
          exact ints_of_blk HBK.out
end Go.Proofs.YtilacamhjibneaaDoor

/- Both Recurrences at any input; the law VineRecurs, walked. No condition but the arguments' cells. -/
namespace Go.Proofs.YtilacamhjibneaaDoor
open Go.RowKit

theorem sli_chg {w w' : World} {v : Value} {X : List Int} (h : SlI w v X) (hc : Chg (fun _ => False) w w') : SlI w' v X := by
  obtain ⟨ao, g, off, c, h1, h2, h3⟩ := h
  exact ⟨ao, g, off, c, h1, h2, h3.chg hc (fun x => x)⟩
def sv (P : List ByteArray) : List Value := P.map Value.string
theorem info9 : (Tryd.prog.info? 9).map (fun i => (i.zero, i.size, i.bytes)) = some (some (.string ⟨#[]⟩), 1, 16) := by kernel_rfl
/-- Strings behind nothing of the call's own. -/
theorem wpList_appS {w : World} {ops : Array Oper} {rest : List Oper} {o : Oper} {a : Act} {Q : Exit → Act → World → Prop} (hgd : o.guard = none) (sl x : Operand)
    (ho : o.op = .call { callee := .builtin .append, args := #[sl, x], argTypes := #[22, 22] }) (base : Nat) (v : Value) (t : List ByteArray) (hs : a.eval sl = v) (hown : w.ownsRow base 9 1 v 0 [])
    (bo : Option Addr) (c : Nat) (hx : a.eval x = .slice bo t.length c) (hsrc : t = [] ∨ ∃ g off, bo = some ⟨g, off, none⟩ ∧ StrsAt w g off t) (hl : t.length ≤ 100000) (hb : base ≤ w.heap.size)
    (hK : ∀ v' w', (∃ ao b off c, v' = .slice ao t.length c ∧ StrsAt w' b off t ∧ (t = [] ∨ ao = some ⟨b, off, none⟩)) → Chg (fun k => base ≤ k) w w' → wpList Tryd.prog ops Q rest (a.put o.dst v') w') : wpList Tryd.prog ops Q (o :: rest) a w := by
  obtain ⟨i0, h0, h1, h2, h3⟩ := info_parts info9
  refine wpList_append_all hgd sl x 22 ho base 9 i0 _ 1 16 Tryd.underlying22 h0 h1 h2 h3 rfl (by decide) v 0 [] hs hown bo t.length c (sv t) hx (by simp [sv]) ?_ ?_ (by unfold maxLen; omega) (by omega) hb ?_
  · rcases hsrc with rfl | ⟨g, off, rfl, hn⟩
    · exact .inl rfl
    · refine .inr ⟨_, rfl, fun j u hj => ?_⟩
      rw [add_plain]
      unfold sv at hj
      rw [List.getElem?_map] at hj
      by_cases hjt : j < t.length
      · rw [List.getElem?_eq_getElem hjt] at hj
        cases hj
        exact hn j hjt
      · rw [List.getElem?_eq_none (by omega)] at hj
        cases hj
  · intro u hu
    unfold sv at hu
    obtain ⟨x, _, rfl⟩ := List.mem_map.1 hu
    rfl
  · intro v' w' r1 r2 r3
    rw [Nat.zero_add, List.nil_append] at r1
    refine hK v' w' ?_ ((Chg.of_grownRow r2).mono (fun k hk => ?_))
    · by_cases ht : t = []
      · subst ht
        obtain ⟨ao, c, rfl, _⟩ := owns_form r1
        exact ⟨ao, 0, 0, c, rfl, fun k hk => by simp at hk, .inl rfl⟩
      · obtain ⟨g, c, rfl, _, hq⟩ := QueB.of_owns r1 (List.length_pos_iff.2 ht)
        refine ⟨_, g, 0, c, rfl, fun k hk => ?_, .inr rfl⟩
        exact hq.at_ k _ (by unfold sv; rw [List.getElem?_map, List.getElem?_eq_getElem hk]; rfl)
    · rcases hown.2 with ⟨rfl, _⟩ | ⟨g, cc, cur, rfl, hg, _⟩
      · simp [Value.ownBlock] at hk
      · simp [Value.ownBlock] at hk
        omega
/-- What both return: numbers and an error. -/
def RetI (X : List Int) (e : Int) (w : World) (r : Ending) (w' : World) : Prop := (∃ v, r = .returned (.tuple #[v, .int .i64 e]) ∧ SlI w' v X) ∧ Chg (fun _ => False) w w'
set_option maxRecDepth 100000 in
set_option maxHeartbeats 1000000 in
theorem rec_both (P : List ByteArray) (s : ByteArray) (hn : P.length ≤ 1000) (hz : ∀ p ∈ P, p.size ≤ 1000) (hzs : s.size ≤ 1000) :
    ∃ (X : List Int) (e : Int), X.length ≤ 10 ∧ ∀ (v : Value) (w : World), SlS w v P → Calls Tryd.prog 19 #[v, .string s] w (RetI X e w) ∧ Calls Tryd.prog 20 #[v, .string s] w (RetI X e w) := by
  by_cases he : errS P s = 0
  · obtain ⟨V, t, rfl, rfl, hV, hl, ht⟩ := shot_of he
    have h6 := hV.le
    refine ⟨cofs V, 0, by simp [cofs]; omega, fun v w hv => ?_⟩
    obtain ⟨ao, b, off, cap, rfl, hst, ha⟩ := hv.form
    have hpos := hV.pos
    obtain rfl := ha.resolve_left (fun e => by have h0 := congrArg List.length e; rw [List.length_map, List.length_nil] at h0; omega)
    have hva := vat_of hst
    have hlen : (cofs V).length = V.length := by simp [cofs]
    rw [List.length_map]
    refine ⟨(recurrence_ok V hV t ht hl b off cap w hva).mono ?_, (rrecurrence_ok V hV t ht hl b off cap w hva).mono ?_⟩
    · rintro r w' ⟨⟨g, c, rfl, hi, _⟩, hc⟩
      rw [recV_cofs hV] at hi
      exact ⟨⟨_, rfl, _, g, 0, c, by rw [hlen], .inr rfl, hi⟩, hc⟩
    · rintro r w' ⟨⟨g, c, rfl, hi⟩, hc⟩
      exact ⟨⟨_, rfl, _, g, 0, c, by rw [hlen], .inr rfl, hi⟩, hc⟩
  · refine ⟨[], (errS P s : Nat), by simp, fun v w hv => ?_⟩
    obtain ⟨ao, b, off, cap, rfl, hst, ha⟩ := hv.form
    have HS := Lib.hid (shot_any P s ao cap b off w hst ha hn hz hzs)
    rw [show shotV ao cap P s = .tuple #[.slice none 0 0, .int .i64 (errS P s : Nat)] by unfold shotV; rw [if_neg he]] at HS
    have HR := Lib.hid (rshoot_any P s ao cap b off w hst ha hn hz hzs)
    have HN := Lib.hid (show SlI w (.slice none 0 0) [] from ⟨none, 0, 0, 0, rfl, .inl rfl, fun k hk => by simp at hk⟩)
    obtain ⟨E, hE⟩ : ∃ E, errS P s = E := ⟨_, rfl⟩
    rw [hE] at HS HR ⊢
    have dn : (((E : Nat) : Int) != 0) = true := by simpa [hE] using he
    clear hE he hst ha hv
    constructor
    · go_enter Tryd.func19, Tryd.ntmps19
      go_wp2_with fail
      refine HS.out.mono ?_
      rintro e w1 ⟨rfl, rfl⟩
      go_wp2_with fail
      go_ret2
      exact ⟨⟨_, rfl, HN.out⟩, Chg.refl _ _⟩
    · go_enter Tryd.func20, Tryd.ntmps20
      go_wp2_with fail
      refine HR.out.mono ?_
      rintro e w1 ⟨rfl, rfl⟩
      go_wp2_with fail
      go_ret2
      exact ⟨⟨_, rfl, HN.out⟩, Chg.refl _ _⟩

set_option maxRecDepth 100000 in
set_option maxHeartbeats 1000000 in
theorem vineRecurs_law (P : List ByteArray) (s : ByteArray) (v : Value) (w : World) (hv : SlS w v P) (hs : s.size ≤ maxLen) :
    Calls Tryd.prog 4 #[v, .string s] w fun e w' => e = .returned (.bool true) ∧ Chg (fun _ => False) w w' := by
  have HF := Lib.hid (few_any P s v w hv hs)
  by_cases hfew : fewV P s = true
  · obtain ⟨hn, hz, hzs⟩ := few_small hfew
    rw [hfew] at HF
    obtain ⟨X, e0, hX, hb⟩ := rec_both P s hn hz hzs
    have HB := Lib.hid hb
    have HV := Lib.hid hv
    obtain ⟨ao, b, off, cap, rfl, hst, ha⟩ := hv.form
    have HST := Lib.hid hst; have HA := Lib.hid ha
    clear hb hfew hst ha
    go_enter Tryd.func4, Tryd.ntmps4
    go_wp2_with fail
    refine HF.out.mono ?_
    rintro e w1 ⟨rfl, rfl⟩
    obtain ⟨g0, hg0⟩ : ∃ g0, w1.heap.size = g0 := ⟨_, rfl⟩
    have HOE := Lib.hid (owns_empty (g := g0) (base := g0) (size := 1) (by rw [← hg0]; exact Blk.new w1 #[] 9 : Blk (w1.alloc (.cells #[] 9)) g0 9 []) (Nat.le_refl _))
    have HGS := Lib.hid (show g0 ≤ (w1.alloc (.cells #[] 9)).heap.size by rw [← hg0]; exact ((Chg.refl (fun _ => False) w1).alloc _).size)
    have HCW := Lib.hid ((Chg.refl (fun _ => False) w1).alloc (.cells #[] 9))
    have HG0 := Lib.hid hg0
    go_wp2_with (at_builtin; refine wpList_appS rfl (.tmp 16) (.tmp 17) rfl g0 (.slice (some ⟨g0, 0, none⟩) 0 0) P (by simp [Act.eval]) HOE.out ao cap (by simp [Act.eval]) (HA.out.imp id (fun h => ⟨b, off, h, HST.out.chg HCW.out (fun x => x)⟩)) (by omega) HGS.out ?_; intro ov w2 hsl hc2)
    have HSO := Lib.hid (show SlS w2 ov P from ⟨hsl, HV.out.len, HV.out.each⟩)
    have HC2 := Lib.hid (show Chg (fun _ => False) w1 w2 from chg_new (HCW.out.mono (fun _ x => x.elim)) (hc2.mono (fun k hk => by rw [HG0.out]; exact hk)))
    clear hsl hc2 hg0
    obtain ⟨oo, ob, oof, oc, rfl, hso, hoo⟩ := HSO.out.form
    have HOS := Lib.hid hso; have HOO := Lib.hid hoo
    clear hso hoo
    go_wp2_with fail
    refine ((HB.out _ w2 HSO.out).1).mono ?_
    rintro r w3 ⟨⟨va, rfl, hsa⟩, hc3⟩
    have HSA := Lib.hid hsa; have HC3 := Lib.hid (HC2.out.trans hc3 (fun _ x => x.elim)); have HC23 := Lib.hid hc3
    clear hsa hc3
    go_wp2_with fail
    refine ((HB.out _ w3 (HV.out.chg HC3.out)).2).mono ?_
    rintro r w4 ⟨⟨vb, rfl, hsb⟩, hc4⟩
    have HSB := Lib.hid hsb; have HC4 := Lib.hid (HC3.out.trans hc4 (fun _ x => x.elim)); have HSA4 := Lib.hid (HSA.out.imp fun _ h => h) ; have HC24 := Lib.hid (HC23.out.trans hc4 (fun _ x => x.elim))
    have HSAX := Lib.hid (sli_chg HSA.out hc4)
    clear hsb hc4 HSA4
    go_wp2_with fail
    go_loopg [10] P.length (fun gm iv wr => ∃ i : Nat, i ≤ P.length ∧ gm = P.length - i ∧ iv = .int .i64 i ∧ Chg (fun _ => False) w4 wr)
    case atStart => exact ⟨0, by omega, by omega, rfl, Chg.refl _ _⟩
    case round =>
      obtain ⟨i, hi, rfl, rfl, hc⟩ := hrel
      have HC := Lib.hid hc
      clear hc
      by_cases hin : i < P.length
      · have d0 : decide (i < P.length) = true := by simpa using hin
        obtain rfl := HA.out.resolve_left (fun e => by rw [e] at hin; simp at hin)
        obtain rfl := HOO.out.resolve_left (fun e => by rw [e] at hin; simp at hin)
        have c0 := (HST.out.chg (HC4.out.trans HC.out (fun _ x => x.elim)) (fun x => x)) i hin
        have c1 := (HOS.out.chg (HC24.out.trans HC.out (fun _ x => x.elim)) (fun x => x)) i hin
        obtain ⟨q, hq⟩ : ∃ q, P[i] = q := ⟨_, rfl⟩
        rw [hq] at c0 c1
        clear hq
        go_wp2_with fail
        go_quiet (fail)
        go_wp2_with fail
        go_roundg (P.length - (i + 1))
        case measure => omega
        case rel => exact ⟨i + 1, by omega, rfl, by go_num, HC.out.drewN nq⟩
      · obtain rfl : i = P.length := by omega
        have HSM := Lib.hid (same_any X X va vb wr (sli_chg HSAX.out HC.out) (sli_chg HSB.out HC.out) (by omega) (by omega))
        rw [show decide (X = X) = true by simp] at HSM
        go_wp2_with fail
        refine HSM.out.mono ?_
        rintro r w5 ⟨rfl, q, rfl⟩
        go_wp2_with fail
        refine (alive_any _).mono ?_
        rintro e w6 ⟨rfl, hc6⟩
        have HC6 := Lib.hid ((HC4.out.trans ((HC.out.drewN q)) (fun _ x => x.elim)).trans hc6 (fun _ x => x.elim))
        clear hc6
        go_wp2_with fail
        go_ret
        exact ⟨rfl, HC6.out⟩
  · have hff : fewV P s = false := by simpa using hfew
    rw [hff] at HF
    clear hfew hff hv
    go_enter Tryd.func4, Tryd.ntmps4
    go_wp2_with fail
    refine HF.out.mono ?_
    rintro e w1 ⟨rfl, rfl⟩
    go_wp2_with fail
    refine (alive_any w1).mono ?_
    rintro e w2 ⟨rfl, hc2⟩
    have HC2 := Lib.hid hc2
    clear hc2
    go_wp2_with fail
    go_ret
    exact ⟨rfl, HC2.out⟩
end Go.Proofs.YtilacamhjibneaaDoor

/- Long, both, at any input. Their conditions are their premises. -/
namespace Go.Proofs.YtilacamhjibneaaDoor
open Go.RowKit

/-- What both Longs return. -/
def lonV (V : List (List Nat)) (t : List Nat) (years : Int) : Value :=
  if ¬ (0 ≤ years ∧ years ≤ 1000) then .tuple #[.int .i64 0, .int .i64 3] else if 1152921504606846976 < (gen V years.toNat t).length then .tuple #[.int .i64 0, .int .i64 4] else .tuple #[.int .i64 ((gen V years.toNat t).length : Nat), .int .i64 0]

set_option maxRecDepth 100000 in
set_option maxHeartbeats 1000000 in
theorem lon_ok (V : List (List Nat)) (hV : WF V) (t : List Nat) (ht : ∀ c ∈ t, c < V.length) (hl : t.length ≤ 30) (years : Int) (hyi : I64 years) (b off cap : Nat) (w : World) (hv : VAt w b off V) :
    Calls Tryd.prog 32 #[.slice (some ⟨b, off, none⟩) V.length cap, .string (str t), .int .i64 years] w fun e w' => e = .returned (lonV V t years) ∧ Chg (fun _ => False) w w' := by
  have HS := Lib.hid (shot_ok V hV t ht hl b off cap w hv)
  have HYR := Lib.hid (yearly_any years w)
  unfold I64 at hyi
  by_cases hy : 0 ≤ years ∧ years ≤ 1000
  · obtain ⟨Y, rfl⟩ : ∃ Y : Nat, years = (Y : Int) := ⟨years.toNat, by omega⟩
    have hY : Y ≤ 1000 := by omega
    rw [decide_eq_true hy] at HYR
    have HAG := Lib.hid (aged_any V hV t ht (by omega) Y hY b off cap w hv)
    have HSM := Lib.hid (sum_gen hV ht (show t.length ≤ lim by unfold lim; omega) Y)
    have HLE := Lib.hid (agedF_le V t (by omega) Y)
    have HLN := Lib.hid (agedF_len V t Y)
    have HR : Hid (lonV V t (Y : Int) = if 1152921504606846976 < (gen V Y t).length then .tuple #[.int .i64 0, .int .i64 4] else .tuple #[.int .i64 ((gen V Y t).length : Nat), .int .i64 0]) := Lib.hid (by
      unfold lonV
      rw [if_neg (by omega)]
      rfl)
    have hn6 := hV.le
    clear hy hyi hV ht hv
    go_enter Tryd.func32, Tryd.ntmps32
    go_wp2_with fail
    refine HS.out.mono ?_
    rintro e w1 ⟨rfl, rfl⟩
    go_wp2_with fail
    refine HYR.out.mono ?_
    rintro e w1 ⟨rfl, rfl⟩
    go_wp2_with fail
    refine HAG.out.mono ?_
    rintro e w2 ⟨⟨g, rfl, _, hb⟩, hc2⟩
    have HSU := Lib.hid (sum_any (agedF V t Y) g 0 V.length w2 (nats_of_blk hb) HLE.out (by rw [HLN.out]; omega))
    rw [HLN.out, HSM.out] at HSU
    have HC2 := Lib.hid hc2
    clear hb hc2
    obtain ⟨L, hL⟩ : ∃ L, (gen V Y t).length = L := ⟨_, rfl⟩
    rw [hL] at HSU HR
    clear hL
    by_cases hbig : 1152921504606846976 < L
    · rw [if_pos hbig] at HR
      rw [show min L lim = 1152921504606846977 by unfold lim; omega] at HSU
      go_wp2_with fail
      refine HSU.out.mono ?_
      rintro e w3 ⟨rfl, rfl⟩
      go_wp2_with fail
      go_ret2
      exact ⟨by rw [HR.out]; rfl, HC2.out⟩
    · rw [if_neg hbig] at HR
      rw [show min L lim = L by unfold lim; omega] at HSU
      have d1 : decide ((1152921504606846976 : Int) < (L : Int)) = false := by simp; omega
      have d2 : decide (1152921504606846976 < L) = false := by simpa using hbig
      go_wp2_with fail
      refine HSU.out.mono ?_
      rintro e w3 ⟨rfl, rfl⟩
      go_wp2_with fail
      go_ret2
      exact ⟨by rw [HR.out]; rfl, HC2.out⟩
  · rw [decide_eq_false hy] at HYR
    have HR : Hid (lonV V t years = .tuple #[.int .i64 0, .int .i64 3]) := Lib.hid (by unfold lonV; rw [if_pos hy])
    rw [HR.out]
    clear hy hyi HR hV ht hv
    go_enter Tryd.func32, Tryd.ntmps32
    go_wp2_with fail
    refine HS.out.mono ?_
    rintro e w1 ⟨rfl, rfl⟩
    go_wp2_with fail
    refine HYR.out.mono ?_
    rintro e w1 ⟨rfl, rfl⟩
    go_wp2_with fail
    go_ret2
    exact ⟨rfl, Chg.refl _ _⟩

set_option maxRecDepth 100000 in
set_option maxHeartbeats 1000000 in
theorem rlon_ok (V : List (List Nat)) (hV : WF V) (t : List Nat) (ht : ∀ c ∈ t, c < V.length) (hl : t.length ≤ 30) (years : Int) (hyi : I64 years) (b off cap : Nat) (w : World) (hv : VAt w b off V) :
    Calls Tryd.prog 33 #[.slice (some ⟨b, off, none⟩) V.length cap, .string (str t), .int .i64 years] w fun e w' => e = .returned (lonV V t years) ∧ Chg (fun _ => False) w w' := by
  have HS := Lib.hid (rshoot_ok V hV t ht hl b off cap w hv)
  unfold I64 at hyi
  by_cases hy : 0 ≤ years ∧ years ≤ 1000
  · obtain ⟨Y, rfl⟩ : ∃ Y : Nat, years = (Y : Int) := ⟨years.toNat, by omega⟩
    have hY : Y ≤ 1000 := by omega
    have d1 : decide ((Y : Int) < 0) = false := by simp
    have d2 : decide ((1000 : Int) < (Y : Int)) = false := by simp; omega
    have HTB := Lib.hid (table_any V hV Y hY b off cap w hv)
    have HGN := Lib.hid (lng_gen hV Y t ht)
    have HT := Lib.hid ht
    have HR : Hid (lonV V t (Y : Int) = if 1152921504606846976 < (gen V Y t).length then .tuple #[.int .i64 0, .int .i64 4] else .tuple #[.int .i64 ((gen V Y t).length : Nat), .int .i64 0]) := Lib.hid (by
      unfold lonV
      rw [if_neg (by omega)]
      rfl)
    have hn6 := hV.le
    clear hy hyi hV ht hv
    go_enter Tryd.func33, Tryd.ntmps33
    go_wp2_with fail
    refine HS.out.mono ?_
    rintro e w1 ⟨rfl, rfl⟩
    go_wp2_with fail
    refine HTB.out.mono ?_
    rintro e w2 ⟨⟨tb, tc, rfl, htab⟩, hc2⟩
    have HC2 := Lib.hid hc2
    obtain ⟨g0, c0, t1, t2⟩ := htab Y (Nat.le_refl _)
    rw [Nat.zero_add] at t1
    have HLG := Lib.hid (long_any t (tab V Y) V.length (by omega) HT.out (tab_len V Y) (tab_le V Y) (by omega) g0 c0 w2 t2)
    rw [HGN.out] at HLG
    have hYY : (Y : Int) < ((Y + 1 : Nat) : Int) := by omega
    obtain ⟨Y1, hY1⟩ : ∃ Y1, Y + 1 = Y1 := ⟨_, rfl⟩
    rw [hY1] at hYY ⊢
    clear htab hc2 t2 hY1
    obtain ⟨L, hL⟩ : ∃ L, (gen V Y t).length = L := ⟨_, rfl⟩
    rw [hL] at HLG HR
    clear hL
    by_cases hbig : 1152921504606846976 < L
    · rw [if_pos hbig] at HR
      have HMN : Hid (1152921504606846976 < min L M63) := Lib.hid (by unfold M63; omega)
      obtain ⟨M, hM⟩ : ∃ M, min L M63 = M := ⟨_, rfl⟩
      rw [hM] at HLG HMN
      have d3 : decide ((1152921504606846976 : Int) < (M : Int)) = true := by have := HMN.out; rw [decide_eq_true_eq]; omega
      have d4 : 1152921504606846976 < M := HMN.out
      clear hM
      go_wp2_with fail
      refine HLG.out.mono ?_
      rintro e w3 ⟨rfl, rfl⟩
      go_wp2_with fail
      go_ret2
      exact ⟨by rw [HR.out]; rfl, HC2.out⟩
    · rw [if_neg hbig] at HR
      rw [show min L M63 = L by unfold M63; omega] at HLG
      have d3 : decide (1152921504606846976 < L) = false := by simpa using hbig
      have d4 : ¬ (1152921504606846976 : Int) < (L : Int) := by omega
      have hw : wrap64 (L : Int) = (L : Int) := by unfold wrap64; omega
      go_wp2_with fail
      refine HLG.out.mono ?_
      rintro e w3 ⟨rfl, rfl⟩
      go_wp2_with fail
      go_ret2
      exact ⟨by rw [HR.out]; rfl, HC2.out⟩
  · have HR : Hid (lonV V t years = .tuple #[.int .i64 0, .int .i64 3]) := Lib.hid (by unfold lonV; rw [if_pos hy])
    rw [HR.out]
    clear HR hV ht hv
    by_cases h0 : years < 0
    · have d1 : decide (years < 0) = true := by simpa using h0
      go_enter Tryd.func33, Tryd.ntmps33
      go_wp2_with fail
      refine HS.out.mono ?_
      rintro e w1 ⟨rfl, rfl⟩
      go_wp2_with fail
      go_ret2
      exact ⟨rfl, Chg.refl _ _⟩
    · have d1 : decide (years < 0) = false := by simpa using h0
      have d2 : decide ((1000 : Int) < years) = true := by simp; omega
      clear hy
      go_enter Tryd.func33, Tryd.ntmps33
      go_wp2_with fail
      refine HS.out.mono ?_
      rintro e w1 ⟨rfl, rfl⟩
      go_wp2_with fail
      go_ret2
      exact ⟨rfl, Chg.refl _ _⟩

set_option maxRecDepth 100000 in
set_option maxHeartbeats 1000000 in
/-- Both Longs return the same, at any input that is small. -/
theorem lon_both (P : List ByteArray) (s : ByteArray) (years : Int) (hyi : I64 years) (hn : P.length ≤ 1000) (hz : ∀ p ∈ P, p.size ≤ 1000) (hzs : s.size ≤ 1000) :
    ∃ (a e : Int), ∀ (v : Value) (w : World), SlS w v P →
      (Calls Tryd.prog 32 #[v, .string s, .int .i64 years] w fun x w' => x = .returned (.tuple #[.int .i64 a, .int .i64 e]) ∧ Chg (fun _ => False) w w') ∧
      (Calls Tryd.prog 33 #[v, .string s, .int .i64 years] w fun x w' => x = .returned (.tuple #[.int .i64 a, .int .i64 e]) ∧ Chg (fun _ => False) w w') := by
  by_cases he : errS P s = 0
  · obtain ⟨V, t, rfl, rfl, hV, hl, ht⟩ := shot_of he
    have hlv : ∃ a e, lonV V t years = .tuple #[.int .i64 a, .int .i64 e] := by
      unfold lonV
      split
      · exact ⟨_, _, rfl⟩
      · split <;> exact ⟨_, _, rfl⟩
    obtain ⟨a, e, hA⟩ := hlv
    refine ⟨a, e, fun v w hv => ?_⟩
    obtain ⟨ao, b, off, cap, rfl, hst, ha⟩ := hv.form
    have hpos := hV.pos
    obtain rfl := ha.resolve_left (fun e => by have h0 := congrArg List.length e; rw [List.length_map, List.length_nil] at h0; omega)
    have hva := vat_of hst
    rw [List.length_map]
    have h1 := lon_ok V hV t ht hl years hyi b off cap w hva
    have h2 := rlon_ok V hV t ht hl years hyi b off cap w hva
    rw [hA] at h1 h2
    exact ⟨h1, h2⟩
  · refine ⟨0, (errS P s : Nat), fun v w hv => ?_⟩
    obtain ⟨ao, b, off, cap, rfl, hst, ha⟩ := hv.form
    have HS := Lib.hid (shot_any P s ao cap b off w hst ha hn hz hzs)
    rw [show shotV ao cap P s = .tuple #[.slice none 0 0, .int .i64 (errS P s : Nat)] by unfold shotV; rw [if_neg he]] at HS
    have HR := Lib.hid (rshoot_any P s ao cap b off w hst ha hn hz hzs)
    obtain ⟨E, hE⟩ : ∃ E, errS P s = E := ⟨_, rfl⟩
    rw [hE] at HS HR ⊢
    have dn : (((E : Nat) : Int) != 0) = true := by simpa [hE] using he
    clear hE he hst ha hv
    constructor
    · go_enter Tryd.func32, Tryd.ntmps32
      go_wp2_with fail
      refine HS.out.mono ?_
      rintro e w1 ⟨rfl, rfl⟩
      go_wp2_with fail
      go_ret2
      exact ⟨rfl, Chg.refl _ _⟩
    · go_enter Tryd.func33, Tryd.ntmps33
      go_wp2_with fail
      refine HR.out.mono ?_
      rintro e w1 ⟨rfl, rfl⟩
      go_wp2_with fail
      go_ret2
      exact ⟨rfl, Chg.refl _ _⟩
end Go.Proofs.YtilacamhjibneaaDoor

/- The lengths keep the recurrence; what agrees long enough agrees always. Plain facts, and Recurrence where a shoot is refused. Their conditions are their premises. -/
namespace Go.Proofs.YtilacamhjibneaaDoor
open Go.RowKit

def lnI (V : List (List Nat)) (t : List Nat) (y : Nat) : Int := ((gen V y t).length : Nat)
def cnI (V : List (List Nat)) (t : List Nat) (y i : Nat) : Int := ((gen V y t).count i : Nat)
theorem sg_sumI (f : Nat → Nat) : ∀ k, ((sg f k : Nat) : Int) = sumI (fun j => (f j : Int)) (List.range k)
  | 0 => rfl
  | k + 1 => by rw [sg, sumI_rangeS, ← sg_sumI f k]; omega
theorem cnI_next {V : List (List Nat)} (hV : WF V) {t : List Nat} (ht : ∀ c ∈ t, c < V.length) (y i : Nat) (hi : i < V.length) : cnI V t (y + 1) i = sumI (fun s => ent (cntM V) i s * cnI V t y s) (List.range V.length) := by
  unfold cnI
  rw [gen_succ, count_grow1 i (gen V y t) (gen_lt hV y t ht), sg_sumI]
  refine sumI_congr _ (fun s hs => ?_)
  rw [ent_cnt V hi (List.mem_range.1 hs)]
  rw [Int.natCast_mul, Int.mul_comm]
theorem lnI_sum {V : List (List Nat)} (hV : WF V) {t : List Nat} (ht : ∀ c ∈ t, c < V.length) (y : Nat) : sumI (cnI V t y) (List.range V.length) = lnI V t y := by
  unfold cnI lnI
  rw [← sum_count (gen V y t) (gen_lt hV y t ht), sg_sumI]
/-- The lengths keep the recurrence. -/
theorem lnI_rec {V : List (List Nat)} (hV : WF V) {t : List Nat} (ht : ∀ c ∈ t, c < V.length) (y : Nat) : rst (coef (ent (cntM V)) V.length) (lnI V t) V.length y = 0 := by
  have h := sum_rec (ent (cntM V)) V.length hV.pos (cnI V t) (fun y i hi => cnI_next hV ht y i hi) y
  have e : (fun y => sumI (cnI V t y) (List.range V.length)) = lnI V t := funext (fun y => lnI_sum hV ht y)
  rw [e] at h
  exact h
theorem lnI_sumrec {V : List (List Nat)} (hV : WF V) {t : List Nat} (ht : ∀ c ∈ t, c < V.length) {y : Nat} (hy : V.length ≤ y) : sumI (fun m => coef (ent (cntM V)) V.length m * lnI V t (y - 1 - m)) (List.range V.length) = lnI V t y := by
  have h := lnI_rec hV ht (y - V.length)
  unfold rst at h
  rw [show y - V.length + V.length = y by omega] at h
  omega
theorem ln_agree {V W : List (List Nat)} (hV : WF V) (hW : WF W) {t u : List Nat} (ht : ∀ c ∈ t, c < V.length) (hu : ∀ c ∈ u, c < W.length) (h0 : ∀ y, y < V.length + W.length → (gen V y t).length = (gen W y u).length) (y : Nat) : (gen V y t).length = (gen W y u).length := by
  have h := rst_agree _ _ (lnI V t) (lnI W u) V.length W.length (lnI_rec hV ht) (lnI_rec hW hu) (fun y hy => by unfold lnI; rw [h0 y hy]) y
  unfold lnI at h
  omega
theorem sameF_first (a b : Nat → Nat) : ∀ (f y d : Nat), (∀ z, y ≤ z → z < y + d → a z = b z) → ¬ a (y + d) = b (y + d) → d < f → sameF a b f y = .tuple #[.int .i64 ((y + d : Nat) : Int), .int .i64 0]
  | 0, _, _, _, _, h => by omega
  | f + 1, y, 0, h1, h2, h3 => by
    rw [sameF, if_neg (by simpa using h2)]
    rfl
  | f + 1, y, d + 1, h1, h2, h3 => by
    rw [sameF, if_pos (h1 y (by omega) (by omega)), sameF_first a b f (y + 1) d (fun z hz hz2 => h1 z (by omega) (by omega)) (by rw [show y + 1 + d = y + (d + 1) by omega]; exact h2) (by omega), show y + 1 + d = y + (d + 1) by omega]
theorem sameF_none (a b : Nat → Nat) : ∀ (f y : Nat), (∀ z, y ≤ z → z < y + f → a z = b z) → sameF a b f y = .tuple #[.int .i64 0, .int .i64 10]
  | 0, _, _ => rfl
  | f + 1, y, h => by
    rw [sameF, if_pos (h y (by omega) (by omega)), sameF_none a b f (y + 1) (fun z hz hz2 => h z (by omega) (by omega))]
theorem wrap_add (a b : Int) : wrap64 (wrap64 a + wrap64 b) = wrap64 (a + b) := by unfold wrap64; omega

set_option maxRecDepth 100000 in
set_option maxHeartbeats 1000000 in
theorem rec_err (P : List ByteArray) (s : ByteArray) (ao : Option Addr) (cap b off : Nat) (w : World) (hm : Sm w P s ao b off) (he : ¬ errS P s = 0) :
    Calls Tryd.prog 19 #[.slice ao P.length cap, .string s] w fun x w' => x = .returned (.tuple #[.slice none 0 0, .int .i64 (errS P s : Nat)]) ∧ w' = w := by
  have HS := Lib.hid (shot_any P s ao cap b off w hm.at_ hm.ao hm.n hm.z hm.zs)
  rw [show shotV ao cap P s = .tuple #[.slice none 0 0, .int .i64 (errS P s : Nat)] by unfold shotV; rw [if_neg he]] at HS
  obtain ⟨E, hE⟩ : ∃ E, errS P s = E := ⟨_, rfl⟩
  rw [hE] at HS ⊢
  have dn : (((E : Nat) : Int) != 0) = true := by simpa [hE] using he
  clear hE he hm
  go_enter Tryd.func19, Tryd.ntmps19
  go_wp2_with fail
  refine HS.out.mono ?_
  rintro e w1 ⟨rfl, rfl⟩
  go_wp2_with fail
  go_ret2
  exact ⟨rfl, rfl⟩
end Go.Proofs.YtilacamhjibneaaDoor
