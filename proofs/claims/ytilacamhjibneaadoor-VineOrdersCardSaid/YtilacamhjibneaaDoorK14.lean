/- Texts on the vines, laid together (V103, V106, V107, V109, V110, V111). Their conditions are their premises. -/
import Derived.Test.YtilacamhjibneaaDoorK10
import Derived.Test.YtilacamhjibneaaDoorK5
import Derived.Test.YtilacamhjibneaaDoorK2
import Derived.Test.YtilacamhjibneaaDoorK7
import Derived.Test.YtilacamhjibneaaDoorK12
import Derived.Test.YtilacamhjibneaaDoorK9
set_option linter.unusedVariables false
/- What Grow computes is the shoot. Plain facts. Their conditions are their premises. -/
namespace Go.Proofs.YtilacamhjibneaaDoor
open Go.RowKit

theorem lvP_at (p : List Nat) (L : List Bool) (i : Nat) (o : List Bool) (hi : i < o.length) : ∀ k, k ≤ p.length → ∀ c, atB (lvP p L i o k) c = if c = i then (atB o i || (p.take k).any (atB L)) else atB o c
  | 0, _, c => by
    by_cases h : c = i
    · subst h; simp [lvP]
    · simp [lvP, h]
  | k + 1, hk, c => by
    have hkl : k < p.length := by omega
    rw [lvP, atB_set _ _ _ _ (by rw [lvP_len]; exact hi), lvP_at p L i o hi k (by omega) i, lvP_at p L i o hi k (by omega) c, if_pos rfl, at0_lt_of hkl, List.take_succ_eq_append_getElem hkl]
    by_cases h : c = i
    · subst h
      rw [if_pos rfl, if_pos rfl, List.any_append]
      simp [Bool.or_assoc]
    · rw [if_neg (fun e => h e.symm), if_neg h, if_neg h]
theorem lvF_at (V : List (List Nat)) (L : List Bool) : ∀ i, i ≤ V.length → ∀ c, c < V.length → atB (lvF V L i) c = if c < i then (part V c).any (atB L) else false
  | 0, _, c, hc => by
    unfold lvF atB
    rw [List.getElem?_replicate, if_pos hc]
    rfl
  | i + 1, hi, c, hc => by
    have e1 : atB (lvF V L i) i = false := by rw [lvF_at V L i (by omega) i (by omega)]; exact if_neg (by omega)
    rw [lvF, lvP_at _ _ _ _ (by rw [lvF_len]; omega) _ (Nat.le_refl _), e1, lvF_at V L i (by omega) c hc, List.take_length]
    by_cases h : c = i
    · subst h
      rw [if_pos rfl, if_pos (by omega), Bool.false_or]
    · rw [if_neg h]
      by_cases h2 : c < i
      · rw [if_pos h2, if_pos (by omega)]
      · rw [if_neg h2, if_neg (by omega)]
theorem livF_iff {V : List (List Nat)} (hV : WF V) : ∀ (y c : Nat), c < V.length → (atB (livF V y) c = true ↔ gen V y [c] ≠ [])
  | 0, c, hc => by
    unfold livF atB
    rw [List.getElem?_replicate, if_pos hc]
    simp [gen]
  | y + 1, c, hc => by
    rw [livF, lvF_at V _ _ (Nat.le_refl _) c hc, if_pos hc, gen_one, List.any_eq_true, Ne, gen_none_mem]
    constructor
    · rintro ⟨d, hd, h⟩ hn
      exact (livF_iff hV y d ((hV.part_le c).2 d hd)).1 h (hn d hd)
    · intro h
      by_cases hh : ∃ d ∈ part V c, gen V y [d] ≠ []
      · obtain ⟨d, hd, h2⟩ := hh
        exact ⟨d, hd, (livF_iff hV y d ((hV.part_le c).2 d hd)).2 h2⟩
      · exfalso
        apply h
        intro d hd
        by_cases h3 : gen V y [d] = []
        · exact h3
        · exact absurd ⟨d, hd, h3⟩ hh
theorem livV_iff {V : List (List Nat)} (hV : WF V) (y c : Nat) (hc : c < V.length) : atB (livV V y) c = true ↔ gen V y [c] ≠ [] := by
  unfold livV
  rw [livF_iff hV _ c hc]
  rcases Nat.le_total y V.length with h | h
  · rw [Nat.min_eq_left h]
  · rw [Nat.min_eq_right h]
    constructor
    · intro h1
      obtain ⟨j, hj, h2, h3⟩ := ring_of_lives hV hc h1
      exact lives_of_ring hV hc hj h2 h3 y
    · intro h1 h2
      have := gen_later h2 (y - V.length)
      rw [show V.length + (y - V.length) = y by omega] at this
      exact h1 this
/-- The letters that live; what comes of them is all. -/
theorem gen_filter {V : List (List Nat)} (hV : WF V) (y : Nat) : ∀ (s : List Nat), (∀ c ∈ s, c < V.length) → gen V y (s.filter fun c => atB (livV V y) c) = gen V y s ∧ (s.filter fun c => atB (livV V y) c).length ≤ (gen V y s).length
  | [], _ => by rw [List.filter_nil, gen_nil]; exact ⟨rfl, Nat.le_refl _⟩
  | c :: s, h => by
    obtain ⟨i1, i2⟩ := gen_filter hV y s (fun d hd => h d (by simp [hd]))
    have sp : ∀ (y : Nat) (c : Nat) (s : List Nat), gen V y (c :: s) = gen V y [c] ++ gen V y s := fun y c s => by
      have := gen_app V y [c] s
      rwa [List.singleton_append] at this
    by_cases hl : atB (livV V y) c = true
    · rw [List.filter_cons_of_pos (p := fun c => atB (livV V y) c) hl, sp, sp y c s, i1]
      refine ⟨rfl, ?_⟩
      have := List.length_pos_iff.2 ((livV_iff hV y c (h c (by simp))).1 hl)
      rw [List.length_append, List.length_cons]
      omega
    · have hn : gen V y [c] = [] := by
        by_cases hg : gen V y [c] = []
        · exact hg
        · exact absurd ((livV_iff hV y c (h c (by simp))).2 hg) hl
      rw [List.filter_cons_of_neg (p := fun c => atB (livV V y) c) hl, sp y c s, hn, List.nil_append]
      exact ⟨i1, i2⟩
theorem grw_gen {V : List (List Nat)} (hV : WF V) : ∀ (y : Nat) (s : List Nat), (∀ c ∈ s, c < V.length) → grw V y s = gen V y s
  | 0, s, _ => rfl
  | y + 1, s, h => by
    have hf : ∀ c ∈ s.filter fun c => atB (livV V (y + 1)) c, c < V.length := fun c hc => h c (List.mem_filter.1 hc).1
    rw [grw, grw_gen hV y _ (grow1_lt hV _)]
    exact (gen_filter hV (y + 1) s h).1
theorem fits_gen {V : List (List Nat)} (hV : WF V) : ∀ (y : Nat) (s : List Nat), (∀ c ∈ s, c < V.length) → s.length ≤ 1000000 → (gen V y s).length ≤ 100000 → Fits V y s
  | 0, s, _, h, _ => h
  | y + 1, s, h, hl, hg => by
    obtain ⟨i1, i2⟩ := gen_filter hV (y + 1) s h
    refine ⟨hl, by omega, fits_gen hV y _ (grow1_lt hV _) (by have := grow1_len hV (s.filter fun c => atB (livV V (y + 1)) c); omega) ?_⟩
    have : gen V y (grow1 V (s.filter fun c => atB (livV V (y + 1)) c)) = gen V (y + 1) (s.filter fun c => atB (livV V (y + 1)) c) := rfl
    rw [this, i1]
    exact hg
end Go.Proofs.YtilacamhjibneaaDoor

/- The builder's WriteString and WriteByte behind Grow, walked. Their conditions are their premises. -/
namespace Go.Proofs.YtilacamhjibneaaDoor
open Go.RowKit

set_option maxHeartbeats 2000000 in
set_option maxRecDepth 100000 in
theorem wstr_used (B b : Nat) (bs : List Value) (s : ByteArray) (w : World) (h : Lib.BuilderAtF 106 5 B b (.pointer (some ⟨b, 0, none⟩)) bs w) (hlen : bs.length + s.size ≤ 140737488355328) (hBw : B ≤ w.heap.size) :
    Calls Tryd.prog 92 #[.pointer (some ⟨b, 0, none⟩), .string s] w fun e w' => e = .returned (.tuple #[.int .i64 s.size, .nilIface]) ∧ (Lib.BuilderAtF 106 5 B b (.pointer (some ⟨b, 0, none⟩)) (bs ++ Lib.strCells s) w' ∧ Below B w w') ∧ ∀ v0, w.cell? ⟨b, 1, none⟩ = some v0 → ∃ v1, w'.cell? ⟨b, 1, none⟩ = some v1 ∧ v0.capOf ≤ v1.capOf := by
  obtain ⟨i0, hi, hz0, hz1, hz2⟩ := info_parts infoByte
  obtain ⟨hB, v, hbk, hown, hne⟩ := h
  have c0 : w.cell? ⟨b, 0, none⟩ = some (.pointer (some ⟨b, 0, none⟩)) := by rw [Lib.cell_of_heap hbk]; rfl
  have c1 : w.cell? ⟨b, 1, none⟩ = some v := by rw [Lib.cell_of_heap hbk]; rfl
  go_enter Tryd.func92, Tryd.ntmps92
  go_wp2_with fail
  refine (check_used b w c0).mono ?_
  rintro e w1 ⟨rfl, rfl⟩
  go_wp2_with (at_builtin; refine Lib.wpList_append_own_stringF_cap _ rfl _ _ 52 9 rfl B 5 i0 Tryd.underlying52 Tryd.underlying9 hi hz0 hz1 hz2 _ _ _ rfl hown s rfl (by unfold maxLen; omega) (by omega) (by omega) ?_)
  intro v' w2 hown' hgrow _ hcapv
  have hlt : b < w1.heap.size := by
    rcases Nat.lt_or_ge b w1.heap.size with h' | h'
    · exact h'
    · simp [Array.getElem?_eq_none h'] at hbk
  have hb2 : w2.heap[b]? = some (.cells #[.pointer (some ⟨b, 0, none⟩), v] 106 (0, 0)) := by
    rw [hgrow.block b hlt (fun e => hne e.symm)]
    exact hbk
  have d0 : w2.cell? ⟨b, 0, none⟩ = some (.pointer (some ⟨b, 0, none⟩)) := by rw [Lib.cell_of_heap hb2]; rfl
  have d1 : w2.cell? ⟨b, 1, none⟩ = some v := by rw [Lib.cell_of_heap hb2]; rfl
  have f1 : w2.frozen? ⟨b, 1, none⟩ = false := Lib.frozen_of_heap hb2 1
  obtain ⟨ao, n', cap, rfl⟩ : ∃ ao n' cap, v' = .slice ao n' cap := by
    rcases hown'.2 with ⟨hv, _⟩ | ⟨g, cap, cur, fz, hv, _⟩
    · exact ⟨_, _, _, hv⟩
    · exact ⟨_, _, _, hv⟩
  go_wp2
  go_ret2
  refine ⟨rfl, ⟨?_, ?_⟩, fun v0 hv0 => ⟨_, World.cell?_setCell_same _ _ _ d1, ?_⟩⟩
  · exact Lib.BuilderAtF.put (T := 106) (e := 5) hB hb2 (bs' := bs ++ Lib.strCells s) (by simpa [Lib.strCells_length] using hown') (by decide)
  · exact ((Below.refl B w1).grown hgrow (by omega) (fun k hk => (hown.lt k hk).1)).setCell (p := ⟨b, 1, none⟩) hB _
  · rw [c1] at hv0
    cases hv0
    exact hcapv

set_option maxHeartbeats 2000000 in
set_option maxRecDepth 100000 in
theorem wbyte_used (B b : Nat) (bs : List Value) (c : Int) (w : World) (h : Lib.BuilderAtF 106 5 B b (.pointer (some ⟨b, 0, none⟩)) bs w) (hlen : bs.length + 1 ≤ 140737488355328) (hBw : B ≤ w.heap.size) :
    Calls Tryd.prog 95 #[.pointer (some ⟨b, 0, none⟩), .int .u8 c] w fun e w' => e = .returned .nilIface ∧ (Lib.BuilderAtF 106 5 B b (.pointer (some ⟨b, 0, none⟩)) (bs ++ [.int .u8 c]) w' ∧ Below B w w' ∧ Lib.OthersKept 5 (some b) w w') := by
  obtain ⟨i0, hi, hz0, hz1, hz2⟩ := info_parts infoByte
  obtain ⟨hB, v, hbk, hown, hne⟩ := h
  have c0 : w.cell? ⟨b, 0, none⟩ = some (.pointer (some ⟨b, 0, none⟩)) := by rw [Lib.cell_of_heap hbk]; rfl
  have c1 : w.cell? ⟨b, 1, none⟩ = some v := by rw [Lib.cell_of_heap hbk]; rfl
  go_enter Tryd.func95, Tryd.ntmps95
  go_wp2_with fail
  refine (check_used b w c0).mono ?_
  rintro e w1 ⟨rfl, rfl⟩
  go_wp2_with (at_builtin; refine wpList_append_ownF _ rfl _ _ 52 rfl B 5 i0 (.int .u8 0) 1 1 Tryd.underlying52 hi hz0 hz1 hz2 rfl (by decide) _ _ _ rfl (hown.alloc _) ⟨w1.heap.size, 0, none⟩ 1 1 [.int .u8 c] rfl rfl (by
    intro j u hj
    match j, hj with
    | 0, hj => simp at hj; subst hj; simp [Addr.add]) (by intro u hu; simp at hu; subst hu; rfl) (by unfold maxLen; omega) (by omega) (by simp; omega) ?_)
  intro v' w2 hown' hgrow _
  have hlt : b < w1.heap.size := by
    rcases Nat.lt_or_ge b w1.heap.size with h' | h'
    · exact h'
    · simp [Array.getElem?_eq_none h'] at hbk
  have hb2 : w2.heap[b]? = some (.cells #[.pointer (some ⟨b, 0, none⟩), v] 106 (0, 0)) := by
    rw [hgrow.block b (by simp; omega) (fun e => hne e.symm), Lib.alloc_old w1 _ b hlt]
    exact hbk
  have d0 : w2.cell? ⟨b, 0, none⟩ = some (.pointer (some ⟨b, 0, none⟩)) := by rw [Lib.cell_of_heap hb2]; rfl
  have d1 : w2.cell? ⟨b, 1, none⟩ = some v := by rw [Lib.cell_of_heap hb2]; rfl
  have f1 : w2.frozen? ⟨b, 1, none⟩ = false := Lib.frozen_of_heap hb2 1
  obtain ⟨g, cap, rfl⟩ : ∃ g cap, v' = .slice (some ⟨g, 0, none⟩) (bs.length + 1) cap := by
    rcases hown'.2 with ⟨_, h0⟩ | ⟨g, cap, cur, fz, hv, _⟩
    · omega
    · exact ⟨g, cap, hv⟩
  go_wp2
  go_ret
  refine ⟨rfl, ?_, ?_, (((Lib.OthersKept.refl _ _ w1).alloc _).grown hgrow (Lib.ownsRowF_kind (hown.alloc _))).setCell ⟨b, 1, none⟩ rfl _⟩
  · exact Lib.BuilderAtF.put (T := 106) (e := 5) hB hb2 (bs' := bs ++ [.int .u8 c]) (by simpa using hown') (by decide)
  · exact (((Below.refl B w1).alloc (by omega) _).grown hgrow (by simp; omega) (fun k hk => (hown.lt k hk).1)).setCell (p := ⟨b, 1, none⟩) hB _
end Go.Proofs.YtilacamhjibneaaDoor

/- strings.Map where letters may be left out. Its conditions are its premises. -/
namespace Go.Proofs.YtilacamhjibneaaDoor
open Go.RowKit

theorem str_take (t : List Nat) {p : Nat} (h : p ≤ t.length) : (str t).extract 0 p = str (t.take p) := by
  apply ByteArray.ext
  apply Array.ext'
  rw [Lib.extract_data]
  simp [str]
theorem str_drop (t : List Nat) {p : Nat} (h : p ≤ t.length) : (str t).extract p t.length = str (t.drop p) := by
  apply ByteArray.ext
  apply Array.ext'
  rw [Lib.extract_data]
  simp [str]
  exact List.take_of_length_le (by simp)
theorem rlen_letter (C : Nat) (h : C < 128) : Lib.runeLen (C : Int) = 1 := by
  unfold Lib.runeLen
  rw [if_neg (by omega), if_pos (by omega)]
theorem strCells_letters (t : List Nat) (h : ∀ c ∈ t, c < 100) : Lib.strCells (str t) = Lib.byteCells (t.map chr) := by
  rw [Lib.strCells_eq]
  rfl
theorem byteCells_snoc (l : List Nat) (c : Nat) (h : c < 100) : Lib.byteCells (l.map chr) ++ [.int .u8 ((97 + c : Nat) : Int)] = Lib.byteCells ((l ++ [c]).map chr) := by
  unfold Lib.byteCells
  rw [List.map_append, List.map_append]
  congr 1
  simp [chr]
  omega
theorem filter_all {t : List Nat} {q : Nat → Bool} (h : ∀ c ∈ t, q c = true) : t.filter q = t := List.filter_eq_self.2 h
theorem filter_take {t : List Nat} {q : Nat → Bool} {p : Nat} (hp : p < t.length) (h : ∀ c ∈ t.take p, q c = true) (hn : q t[p] = false) : t.filter q = t.take p ++ (t.drop (p + 1)).filter q := by
  conv => lhs; rw [← List.take_append_drop p t, List.drop_eq_getElem_cons hp]
  rw [List.filter_append, filter_all h, List.filter_cons_of_neg (by simp [hn])]
theorem filter_drop {t : List Nat} {q : Nat → Bool} {p : Nat} (hp : p < t.length) : (t.drop p).filter q = (if q t[p] = true then [t[p]] else []) ++ (t.drop (p + 1)).filter q := by
  rw [List.drop_eq_getElem_cons hp]
  by_cases h : q t[p] = true
  · rw [List.filter_cons_of_pos h, if_pos h]; rfl
  · rw [List.filter_cons_of_neg h, if_neg h]; rfl

/-- What is true throughout the second loop. -/
structure Snd (B k2 : Nat) (w wx : World) (u ans : List Nat) (q : Nat) (acc : List Nat) (f : Nat → Bool) : Prop where
  bld : Lib.BuilderAtF 106 5 B B (.pointer (some ⟨B, 0, none⟩)) (Lib.byteCells (acc.map chr)) wx
  it : wx.heap[k2]? = some (.stringIter (str u) q)
  bel : Below B w wx
  tot : acc ++ (u.drop q).filter f = ans
  len : acc.length ≤ 1000000 + q

set_option maxRecDepth 100000 in
set_option maxHeartbeats 2000000 in
theorem map_any (L : List Bool) (t : List Nat) (fb g cap : Nat) (w : World) (ht : ∀ c ∈ t, c < L.length) (hL : L.length ≤ 30) (hl : t.length ≤ 1000000)
    (hf : w.cell? ⟨fb, 0, none⟩ = some (.slice (some ⟨g, 0, none⟩) L.length cap)) (hb : BoolsAt w g 0 L) :
    Calls Tryd.prog 70 #[.func (.func 71) #[] #[.pointer (some ⟨fb, 0, none⟩)], .string (str t)] w fun e w' => e = .returned (.string (str (t.filter fun c => atB L c))) ∧ Below w.heap.size w w' := by
  have HT := Lib.hid ht; have HF := Lib.hid hf; have HB := Lib.hid hb
  have hfl := World.cell_lt hf
  have hgl : t.length = 0 ∨ g < w.heap.size := by
    cases t with
    | nil => exact .inl rfl
    | cons c t => exact .inr (World.cell_lt (hb 0 (by have := ht c (by simp); omega)))
  have HGL := Lib.hid hgl
  obtain ⟨R, hR⟩ : ∃ R, (t.filter fun c => atB L c) = R := ⟨_, rfl⟩
  have HR := Lib.hid hR
  rw [hR]
  clear ht hf hb hgl hR
  go_enter Tryd.func70, Tryd.ntmps70
  go_wp2_with fail
  have HI0 := Lib.hid (World.iter_heap (w.alloc (.cells #[.pointer none, .slice none 0 0] 106)) (str t) 0)
  have HD0 : Hid (((w.alloc (.cells #[.pointer none, .slice none 0 0] 106)).iter (str t) 0).heap[w.heap.size]? = some (.cells #[.pointer none, .slice none 0 0] 106)) := Lib.hid ((Below.heap_alloc _ _ _ (by simp)).trans (World.alloc_heap_new w _))
  have HB0 : Hid (Below w.heap.size w ((w.alloc (.cells #[.pointer none, .slice none 0 0] 106)).iter (str t) 0)) := Lib.hid (((Below.refl _ w).alloc (Nat.le_refl _) _).alloc (by simp) _)
  rw [World.size_alloc] at HI0
  obtain ⟨B, hB⟩ : ∃ B, w.heap.size = B := ⟨_, rfl⟩
  rw [hB] at HI0 HD0 HB0 hfl HGL ⊢
  have HBE := Lib.hid hB
  clear hB
  generalize (w.alloc (.cells #[.pointer none, .slice none 0 0] 106)).iter (str t) 0 = W0 at HI0 HD0 HB0 ⊢
  go_loopg [1] t.length (fun gm sv wx => ∃ p : Nat, p ≤ t.length ∧ gm = t.length - p ∧ sv = .string (str t) ∧ (∀ c ∈ t.take p, atB L c = true) ∧ wx.heap[B + 1]? = some (.stringIter (str t) p) ∧ wx.heap[B]? = some (.cells #[.pointer none, .slice none 0 0] 106) ∧ Below B w wx)
  case atStart => exact ⟨0, by omega, by omega, rfl, by simp, HI0.out, HD0.out, HB0.out⟩
  case round =>
    clear HI0 HD0 HB0
    obtain ⟨p, hp, rfl, rfl, hall, hit, hbd, hbw⟩ := hrel
    have HIT := Lib.hid hit; have HBD := Lib.hid hbd; have HBW := Lib.hid hbw; have HALL := Lib.hid hall
    clear hit hbd hbw hall
    by_cases hlt : p < t.length
    · have hcn := HT.out _ (List.getElem_mem hlt)
      have hnx : ∀ ty, (Instr.next (.pointer (some ⟨B + 1, 0, none⟩)) true ty).run Tryd.prog wr = _ := fun ty => next_chr wr (B + 1) t ty HIT.out hlt (by omega)
      have HI2 := Lib.hid (Lib.iterAt_heap wr (B + 1) (str t) p (p + 1) HIT.out)
      have HB2 := Lib.hid (Lib.below_iterAt HBW.out (k := B + 1) (by omega) (str t) (p + 1))
      have HD2 := Lib.hid ((Lib.iterAt_other wr (B + 1) B (str t) (p + 1) (by omega)).trans HBD.out)
      have HCC := Lib.hid (lives_any L t[p] fb g cap (wr.iterAt (B + 1) (str t) (p + 1)) hcn (by omega) ((HB2.out.cell (p := ⟨fb, 0, none⟩) hfl).trans HF.out)
        (fun k hk => (HB2.out.cell (p := ⟨g, 0 + k, none⟩) (show g < B by have := HGL.out; omega)).trans (HB.out k hk)))
      have hszW : B + 1 < (wr.iterAt (B + 1) (str t) (p + 1)).heap.size := (Array.getElem?_eq_some_iff.1 HI2.out).1
      generalize wr.iterAt (B + 1) (str t) (p + 1) = W2 at hnx HI2 HB2 HD2 HCC hszW
      by_cases hla : atB L t[p] = true
      · have HLV : Hid (livR L t[p] = ((97 + t[p] : Nat) : Int)) := Lib.hid (by unfold livR; rw [if_pos hla])
        have HA2 : Hid (∀ c ∈ t.take (p + 1), atB L c = true) := Lib.hid (fun c hc => by
          rw [List.take_succ_eq_append_getElem hlt] at hc
          rcases List.mem_append.1 hc with h | h
          · exact HALL.out c h
          · simp at h; subst h; exact hla)
        rw [HLV.out] at HCC
        obtain ⟨C, hC⟩ : ∃ C, 97 + t[p] = C := ⟨_, rfl⟩
        have hC128 : C < 128 := by omega
        rw [hC] at hnx HCC
        have hCn : ((C : Int) != 65533) = true := by rw [bne_iff_ne]; omega
        clear hC hla HLV
        go_wp2_with fail
        refine HCC.out.mono ?_
        rintro e W3 ⟨rfl, rfl⟩
        clear hnx
        go_wp2_with fail
        go_roundg (t.length - (p + 1))
        case measure => omega
        case rel => exact ⟨p + 1, by omega, rfl, rfl, HA2.out, HI2.out, HD2.out, HB2.out⟩
      · have HLV : Hid (livR L t[p] = -1) := Lib.hid (by unfold livR; rw [if_neg hla])
        have hlf : atB L t[p] = false := by simpa using hla
        have HFT := Lib.hid (filter_take (q := fun c => atB L c) hlt HALL.out hlf)
        rw [HLV.out] at HCC
        obtain ⟨C, hC⟩ : ∃ C, 97 + t[p] = C := ⟨_, rfl⟩
        have hC128 : C < 128 := by omega
        rw [hC] at hnx HCC
        have hCn : ((C : Int) != 65533) = true := by rw [bne_iff_ne]; omega
        have hCm : ¬ ((C : Int) = 65533) := by omega
        have hCk : ((-1 : Int) == (C : Int)) = false := by simp
        have HRL := Lib.hid (Tryd.utf8_RuneLen (C : Int) W2)
        rw [rlen_letter C hC128] at HRL
        have HGR := Lib.hid (Tryd.Builder_Grow_fresh_cap B B (t.length + 4) W2 (Nat.le_refl _) HD2.out (by omega) (by omega))
        have hszs := str_size t
        obtain ⟨N, hN⟩ : ∃ N, t.length + 4 = N := ⟨_, rfl⟩
        rw [hN] at HGR
        have hNI : (t.length : Int) + 4 = (N : Int) := by omega
        have hN4 : 4 ≤ N := by omega
        have hxt := str_take t (p := p) (by omega)
        have hxd := str_drop t (p := p + 1) (by omega)
        have hpI : ((p : Int) + 1).toNat = p + 1 := by omega
        clear hN
        clear hC hla hlf HLV
        go_wp2_with fail
        refine HCC.out.mono ?_
        rintro e W3 ⟨rfl, rfl⟩
        clear hnx
        go_wp2_with fail
        refine HRL.out.mono ?_
        rintro e W3 ⟨rfl, rfl⟩
        go_wp2_with fail
        refine HGR.out.mono ?_
        rintro e W4 ⟨rfl, ⟨hb4, hbl4⟩, ba, cap4, hc4, hcap4⟩
        have HB4 := Lib.hid (HB2.out.trans hbl4)
        have hz4 : B + 1 < W4.heap.size := by have := hbl4.size; omega
        have HWS := Lib.hid (wstr_used B B [] (str (t.take p)) W4 (Lib.BuilderAtF.of hb4) (by rw [str_size, List.length_take]; simp; omega) (by have := hbl4.size; omega))
        have HC4 := Lib.hid (And.intro hc4 hcap4)
        clear hb4 hbl4 hc4 hcap4
        go_wp2_with fail
        refine HWS.out.mono ?_
        rintro e W5 ⟨rfl, ⟨h5w, hbl5⟩, hk5⟩
        have hpt : ∀ c ∈ t.take p, c < 100 := fun c hc => by have := HT.out c (List.mem_of_mem_take hc); omega
        have hcells : [] ++ Lib.strCells (str (t.take p)) = Lib.byteCells ((t.take p).map chr) := by rw [List.nil_append]; exact strCells_letters _ hpt
        rw [hcells] at h5w
        obtain ⟨v5, hv5, hcap5⟩ := hk5 _ HC4.out.1
        have hcap5' : 4 ≤ v5.capOf := by
          have h1 : cap4 ≤ v5.capOf := hcap5
          have := HC4.out.2
          omega
        obtain ⟨b6, n6, cap6, hc6, hcap6⟩ : ∃ b6 n6 cap6, W5.cell? ⟨B, 1, none⟩ = some (.slice b6 n6 cap6) ∧ 1 ≤ cap6 := by
          obtain ⟨_, v6, hv6, hown6, _⟩ := h5w
          have e6 : v6 = v5 := by
            have h1 : W5.cell? ⟨B, 1, none⟩ = some v6 := by rw [Lib.cell_of_heap hv6]; rfl
            exact Option.some.inj (h1.symm.trans hv5)
          rcases hown6.2 with ⟨h0, _⟩ | ⟨g6, cap6, _, _, rfl, _, _, _, hnc, _⟩
          · rw [← e6, h0] at hcap5'
            simp [Value.capOf] at hcap5'
          · refine ⟨_, _, cap6, by rw [Lib.cell_of_heap hv6]; rfl, ?_⟩
            rw [← e6] at hcap5'
            have : 4 ≤ cap6 := hcap5'
            omega
        have HB5 := Lib.hid (HB4.out.trans hbl5)
        have H5 := Lib.hid h5w
        have HCP := Lib.hid (Tryd.Builder_Cap_cell B b6 n6 cap6 W5 hc6)
        have hB5 : B + 1 < W5.heap.size := by have := hbl5.size; omega
        clear h5w hbl5 hk5 hcells hv5 hcap5 hcap5' hc6 hpt HWS HC4 HGR
        have hcapz : ¬ ((cap6 : Int) = 0) := by omega
        have hcapb : ((cap6 : Int) == 0) = false := by simp; omega
        go_wp2_with fail
        refine HCP.out.mono ?_
        rintro e W6 ⟨rfl, rfl⟩
        have HS0 : Hid (Snd B W6.heap.size w (W6.iter (str (t.drop (p + 1))) 0) (t.drop (p + 1)) R 0 (t.take p) (fun c => atB L c)) := Lib.hid ⟨H5.out.alloc _, World.iter_heap W6 (str (t.drop (p + 1))) 0, HB5.out.alloc (by omega) _, by rw [List.drop_zero, ← HR.out]; exact HFT.out.symm, by rw [List.length_take]; omega⟩
        have HUT : Hid (∀ c ∈ t.drop (p + 1), c < L.length) := Lib.hid (fun c hc => HT.out c (List.mem_of_mem_drop hc))
        have hul : (t.drop (p + 1)).length ≤ 1000000 := by rw [List.length_drop]; omega
        obtain ⟨u, hu⟩ : ∃ u, t.drop (p + 1) = u := ⟨_, rfl⟩
        rw [hu] at HS0 HUT hul hxd
        obtain ⟨k2, hk2⟩ : ∃ k2, W6.heap.size = k2 := ⟨_, rfl⟩
        rw [hk2] at HS0 hB5
        rw [hu]
        go_wp2_with fail
        clear hu hk2 H5 HB5 HB4 HFT HRL HALL HI2 HD2 HCC HB2 hxd hxt hpI hszs hNI
        generalize W6.iter (str u) 0 = W7 at HS0 ⊢
        go_loopg [] u.length (fun gm wx => ∃ (q : Nat) (acc : List Nat), q ≤ u.length ∧ gm = u.length - q ∧ Snd B k2 w wx u R q acc (fun c => atB L c))
        case atStart => exact ⟨0, t.take p, by omega, by omega, HS0.out⟩
        case round =>
          clear HS0
          obtain ⟨q, acc, hq, rfl, hsn⟩ := hrel
          have HS := Lib.hid hsn
          clear hsn
          have hsz : k2 < wr.heap.size := (Array.getElem?_eq_some_iff.1 HS.out.it).1
          by_cases hlt2 : q < u.length
          · have hcn := HUT.out _ (List.getElem_mem hlt2)
            have hnx : ∀ ty, (Instr.next (.pointer (some ⟨k2, 0, none⟩)) true ty).run Tryd.prog wr = _ := fun ty => next_chr wr k2 u ty HS.out.it hlt2 (by omega)
            have HI3 := Lib.hid (Lib.iterAt_heap wr k2 (str u) q (q + 1) HS.out.it)
            have HB3 := Lib.hid (Lib.below_iterAt HS.out.bel (k := k2) (by omega) (str u) (q + 1))
            have HD3 := Lib.hid (HS.out.bld.iterAt HS.out.it (q + 1))
            have HCC := Lib.hid (lives_any L u[q] fb g cap (wr.iterAt k2 (str u) (q + 1)) hcn (by omega) ((HB3.out.cell (p := ⟨fb, 0, none⟩) hfl).trans HF.out)
              (fun k hk => (HB3.out.cell (p := ⟨g, 0 + k, none⟩) (show g < B by have := HGL.out; have : 0 < t.length := by omega
                                                                                omega)).trans (HB.out k hk)))
            have HFD := Lib.hid (filter_drop (t := u) (q := fun c => atB L c) hlt2)
            have HTO := Lib.hid HS.out.tot
            have HLA := Lib.hid HS.out.len
            have hsz3 : k2 < (wr.iterAt k2 (str u) (q + 1)).heap.size := (Array.getElem?_eq_some_iff.1 HI3.out).1
            clear HS
            generalize wr.iterAt k2 (str u) (q + 1) = W8 at hnx HI3 HB3 HD3 HCC hsz3
            by_cases hla : atB L u[q] = true
            · have HLV : Hid (livR L u[q] = ((97 + u[q] : Nat) : Int)) := Lib.hid (by unfold livR; rw [if_pos hla])
              have HT2 : Hid ((acc ++ [u[q]]) ++ (u.drop (q + 1)).filter (fun c => atB L c) = R) := Lib.hid (by
                rw [← HTO.out, HFD.out, if_pos hla, List.append_assoc])
              have HWB := Lib.hid (wbyte_used B B (Lib.byteCells (acc.map chr)) ((97 + u[q] : Nat) : Int) W8 HD3.out (by rw [Lib.byteCells_length, List.length_map]; have := HLA.out; omega) (by omega))
              have HSN := Lib.hid (byteCells_snoc acc u[q] (by omega))
              rw [HLV.out] at HCC
              obtain ⟨d, hd⟩ : ∃ d, u[q] = d := ⟨_, rfl⟩
              rw [hd] at hcn hnx HCC HT2 HWB HSN
              obtain ⟨C2, hC2⟩ : ∃ C2, 97 + d = C2 := ⟨_, rfl⟩
              have hC128' : C2 < 128 := by omega
              rw [hC2] at hnx HCC HWB HSN
              have hC0 : (0 : Int) ≤ (C2 : Int) := by omega
              have hCu : IntKind.u8.wrap (C2 : Int) = (C2 : Int) := by
                simp [IntKind.wrap, IntKind.bits, IntKind.signed]
                omega
              clear hd hC2 hla HLV
              go_wp2_with fail
              refine HCC.out.mono ?_
              rintro e W9 ⟨rfl, rfl⟩
              clear hnx
              go_wp2_with fail
              refine HWB.out.mono ?_
              rintro e W10 ⟨rfl, h10, hb10, hk10⟩
              have HS10 : Hid (Snd B k2 w W10 u R (q + 1) (acc ++ [d]) (fun c => atB L c)) := Lib.hid ⟨by rw [← HSN.out]; exact h10, hk10.iter HI3.out (by omega), HB3.out.trans hb10, HT2.out, by have := HLA.out; simp; omega⟩
              clear h10 hb10 hk10
              go_wp2_with fail
              go_roundg (u.length - (q + 1))
              case measure => omega
              case rel => exact ⟨q + 1, acc ++ [d], by omega, rfl, HS10.out⟩
            · have HLV : Hid (livR L u[q] = -1) := Lib.hid (by unfold livR; rw [if_neg hla])
              have HT2 : Hid (acc ++ (u.drop (q + 1)).filter (fun c => atB L c) = R) := Lib.hid (by
                rw [← HTO.out, HFD.out, if_neg hla, List.nil_append])
              rw [HLV.out] at HCC
              have HS10 : Hid (Snd B k2 w W8 u R (q + 1) acc (fun c => atB L c)) := Lib.hid ⟨HD3.out, HI3.out, HB3.out, HT2.out, by have := HLA.out; omega⟩
              obtain ⟨C2, hC2⟩ : ∃ C2, 97 + u[q] = C2 := ⟨_, rfl⟩
              rw [hC2] at hnx HCC
              clear hC2 hla HLV
              go_wp2_with fail
              refine HCC.out.mono ?_
              rintro e W9 ⟨rfl, rfl⟩
              clear hnx
              go_wp2_with fail
              go_roundg (u.length - (q + 1))
              case measure => omega
              case rel => exact ⟨q + 1, acc, by omega, rfl, HS10.out⟩
          · obtain rfl : q = u.length := by omega
            have HRE : Hid (acc = R) := Lib.hid (by
              have := HS.out.tot
              rw [List.drop_length, List.filter_nil, List.append_nil] at this
              exact this)
            have hnx : ∀ ty, (Instr.next (.pointer (some ⟨k2, 0, none⟩)) true ty).run Tryd.prog wr = _ := fun ty => Lib.run_next_end_at wr k2 (str u) u.length ty HS.out.it (by rw [str_size]; omega)
            have HST := Lib.hid (Tryd.Builder_String_any_f B B (acc.map chr) wr (Or.inr HS.out.bld) (by omega))
            go_wp2_with fail
            refine HST.out.mono ?_
            rintro e W9 ⟨rfl, _, hb9⟩
            have HB9 := Lib.hid (HS.out.bel.trans hb9)
            clear hnx hb9
            go_wp2_with fail
            go_ret
            exact ⟨by rw [← HRE.out]; rfl, by rw [HBE.out]; exact HB9.out⟩
    · obtain rfl : p = t.length := by omega
      have HRE : Hid (t = R) := Lib.hid (by
        rw [← HR.out]
        have := HALL.out
        rw [List.take_length] at this
        exact (filter_all this).symm)
      have hnx : ∀ ty, (Instr.next (.pointer (some ⟨B + 1, 0, none⟩)) true ty).run Tryd.prog wr = _ := fun ty => Lib.run_next_end_at wr (B + 1) (str t) t.length ty HIT.out (by rw [str_size]; omega)
      have HCP := Lib.hid (Tryd.Builder_Cap_cell B none 0 0 wr (by rw [Lib.cell_of_heap HBD.out]; rfl))
      go_wp2_with fail
      refine HCP.out.mono ?_
      rintro e W3 ⟨rfl, rfl⟩
      clear hnx
      go_wp2_with fail
      go_ret
      exact ⟨by rw [← HRE.out]; rfl, by rw [HBE.out]; exact HBW.out⟩
end Go.Proofs.YtilacamhjibneaaDoor

/- Grow, both, at any input. Their conditions are their premises. -/
namespace Go.Proofs.YtilacamhjibneaaDoor
open Go.RowKit

theorem livV_len (V : List (List Nat)) (k : Nat) : (livV V k).length = V.length := livF_len V _
theorem maps_at {V : List (List Nat)} (hV : WF V) : MapsAt V := fun k t fb g cap w ht hl hf hb => by
  have h6 := hV.le
  have h := map_any (livV V k) t fb g cap w (by rw [livV_len]; exact ht) (by rw [livV_len]; omega) hl (by rw [livV_len]; exact hf) hb
  exact h
/-- What both Grows return. -/
def groV (V : List (List Nat)) (t : List Nat) (years : Int) : Value :=
  if ¬ (0 ≤ years ∧ years ≤ 1000) then .tuple #[.string ⟨#[]⟩, .int .i64 3] else if (gen V years.toNat t).length ≤ 100000 then .tuple #[.string (str (gen V years.toNat t)), .int .i64 0] else .tuple #[.string ⟨#[]⟩, .int .i64 8]

set_option maxRecDepth 100000 in
set_option maxHeartbeats 1000000 in
theorem grow_ok (V : List (List Nat)) (hV : WF V) (t : List Nat) (ht : ∀ c ∈ t, c < V.length) (hl : t.length ≤ 30) (years : Int) (hyi : I64 years) (b off cap : Nat) (w : World) (hv : VAt w b off V) :
    Calls Tryd.prog 30 #[.slice (some ⟨b, off, none⟩) V.length cap, .string (str t), .int .i64 years] w fun e w' => e = .returned (groV V t years) ∧ Chg (fun _ => False) w w' := by
  by_cases hy : 0 ≤ years ∧ years ≤ 1000
  · obtain ⟨Y, rfl⟩ : ∃ Y : Nat, years = (Y : Int) := ⟨years.toNat, by omega⟩
    have hs := sum_gen hV ht (show t.length ≤ lim by unfold lim; omega) Y
    have h := grow_any V hV t ht hl Y (by omega) (maps_at hV) (fun h1 => fits_gen hV Y t ht (by omega) (by rw [hs] at h1; unfold lim at h1; omega)) b off cap w hv
    have e : growV V t Y = groV V t (Y : Int) := by
      unfold growV groV
      rw [hs, if_neg (show ¬ ¬ (0 ≤ (Y : Int) ∧ (Y : Int) ≤ 1000) by omega)]
      show _ = if (gen V Y t).length ≤ 100000 then Value.tuple #[.string (str (gen V Y t)), .int .i64 0] else _
      by_cases hb : (gen V Y t).length ≤ 100000
      · rw [if_pos hb, if_pos (by unfold lim; omega), grw_gen hV Y t ht]
      · rw [if_neg hb, if_neg (by unfold lim; omega)]
    rw [e] at h
    exact h
  · have HS := Lib.hid (shot_ok V hV t ht hl b off cap w hv)
    have HYR := Lib.hid (yearly_any years w)
    have hd : decide (0 ≤ years ∧ years ≤ 1000) = false := by simpa using hy
    rw [hd] at HYR
    have HR : Hid (groV V t years = .tuple #[.string ⟨#[]⟩, .int .i64 3]) := Lib.hid (if_pos hy)
    rw [HR.out]
    clear hy hyi HR hV ht hv hd
    go_enter Tryd.func30, Tryd.ntmps30
    go_wp2_with fail
    refine HS.out.mono ?_
    rintro e w1 ⟨rfl, rfl⟩
    go_wp2_with fail
    refine HYR.out.mono ?_
    rintro e w1 ⟨rfl, rfl⟩
    go_wp2_with fail
    go_ret2
    exact ⟨rfl, Chg.refl _ _⟩

set_option maxRecDepth 100000 in
set_option maxHeartbeats 1000000 in
theorem rgrow_ok (V : List (List Nat)) (hV : WF V) (t : List Nat) (ht : ∀ c ∈ t, c < V.length) (hl : t.length ≤ 30) (years : Int) (hyi : I64 years) (b off cap : Nat) (w : World) (hv : VAt w b off V) :
    Calls Tryd.prog 31 #[.slice (some ⟨b, off, none⟩) V.length cap, .string (str t), .int .i64 years] w fun e w' => e = .returned (groV V t years) ∧ Chg (fun _ => False) w w' := by
  have HS := Lib.hid (rshoot_ok V hV t ht hl b off cap w hv)
  unfold I64 at hyi
  by_cases hy : 0 ≤ years ∧ years ≤ 1000
  · obtain ⟨Y, rfl⟩ : ∃ Y : Nat, years = (Y : Int) := ⟨years.toNat, by omega⟩
    have hY : Y ≤ 1000 := by omega
    have d1 : decide ((Y : Int) < 0) = false := by simp
    have d2 : decide ((1000 : Int) < (Y : Int)) = false := by simp; omega
    have HTB := Lib.hid (table_any V hV Y hY b off cap w hv)
    have HGN := Lib.hid (lng_gen hV Y t ht)
    have HT := Lib.hid ht; have HWF := Lib.hid hV; have HV := Lib.hid hv
    have HR : Hid (groV V t (Y : Int) = if (gen V Y t).length ≤ 100000 then .tuple #[.string (str (gen V Y t)), .int .i64 0] else .tuple #[.string ⟨#[]⟩, .int .i64 8]) := Lib.hid (by
      unfold groV
      rw [if_neg (by omega)]
      rfl)
    have hn6 := hV.le
    obtain ⟨G, hG⟩ : ∃ G, gen V Y t = G := ⟨_, rfl⟩
    have HGE := Lib.hid hG
    rw [hG] at HR HGN
    clear hy hyi hV ht hv hG
    go_enter Tryd.func31, Tryd.ntmps31
    go_wp2_with fail
    refine HS.out.mono ?_
    rintro e w1 ⟨rfl, rfl⟩
    go_wp2_with fail
    refine HTB.out.mono ?_
    rintro e w2 ⟨⟨tb, tc, rfl, htab⟩, hc2⟩
    have HC2 := Lib.hid hc2; have HTAB := Lib.hid htab
    obtain ⟨g0, c0, t1, t2⟩ := htab Y (Nat.le_refl _)
    rw [Nat.zero_add] at t1
    have HLG := Lib.hid (long_any t (tab V Y) V.length (by omega) HT.out (tab_len V Y) (tab_le V Y) (by omega) g0 c0 w2 t2)
    rw [HGN.out] at HLG
    have hYY : (Y : Int) < ((Y + 1 : Nat) : Int) := by omega
    have HDN := Lib.hid (fun (hG : G.length ≤ 100000) => down_any V HWF.out w2 b off cap (HV.out.chg HC2.out (fun x => x)) tb tc (Y + 1) Y HTAB.out (by omega) hY Y (Nat.le_refl _) t [] HT.out (by omega) (by rw [HGE.out]; simp; omega) (.slice none 0 0) w2 (Chg.refl _ _) (.inl ⟨rfl, rfl⟩))
    obtain ⟨Y1, hY1⟩ : ∃ Y1, Y + 1 = Y1 := ⟨_, rfl⟩
    rw [hY1] at hYY ⊢
    simp only [hY1] at HDN
    clear htab hc2 t2 hY1
    obtain ⟨L, hL⟩ : ∃ L, G.length = L := ⟨_, rfl⟩
    rw [hL] at HLG HR HDN
    clear hL
    by_cases hsm : L ≤ 100000
    · rw [if_pos hsm] at HR
      rw [show min L M63 = L by unfold M63; omega] at HLG
      have HD2 := Lib.hid (HDN.out hsm)
      have HGL : Hid (∀ c ∈ G, c < 100) := Lib.hid (fun c hc => by rw [← HGE.out] at hc; have := gen_lt HWF.out Y t HT.out c hc; omega)
      rw [HGE.out, List.nil_append] at HD2
      have d3 : decide ((100000 : Int) < (L : Int)) = false := by simp; omega
      have d4 : decide (100000 < L) = false := by simp; omega
      clear HDN
      go_wp2_with fail
      refine HLG.out.mono ?_
      rintro e w3 ⟨rfl, rfl⟩
      go_wp2_with fail
      refine HD2.out.mono ?_
      rintro e w4 ⟨⟨v', rfl, ho'⟩, hc'⟩
      have hcv := conv_out ho' HGL.out
      have HC4 := Lib.hid (HC2.out.trans hc' (fun _ x => x.elim))
      clear ho' hc'
      go_wp2_with fail
      go_ret2
      exact ⟨by rw [HR.out]; rfl, HC4.out⟩
    · rw [if_neg hsm] at HR
      have HMN : Hid (100000 < min L M63) := Lib.hid (by unfold M63; omega)
      obtain ⟨M, hM⟩ : ∃ M, min L M63 = M := ⟨_, rfl⟩
      rw [hM] at HLG HMN
      have d3 : decide ((100000 : Int) < (M : Int)) = true := by have := HMN.out; rw [decide_eq_true_eq]; omega
      have d4 : 100000 < M := HMN.out
      clear hM HDN
      go_wp2_with fail
      refine HLG.out.mono ?_
      rintro e w3 ⟨rfl, rfl⟩
      go_wp2_with fail
      go_ret2
      exact ⟨by rw [HR.out]; rfl, HC2.out⟩
  · have HR : Hid (groV V t years = .tuple #[.string ⟨#[]⟩, .int .i64 3]) := Lib.hid (if_pos hy)
    rw [HR.out]
    clear HR hV ht hv
    by_cases h0 : years < 0
    · have d1 : decide (years < 0) = true := by simpa using h0
      go_enter Tryd.func31, Tryd.ntmps31
      go_wp2_with fail
      refine HS.out.mono ?_
      rintro e w1 ⟨rfl, rfl⟩
      go_wp2_with fail
      go_ret2
      exact ⟨rfl, Chg.refl _ _⟩
    · have d1 : decide (years < 0) = false := by simpa using h0
      have d2 : decide ((1000 : Int) < years) = true := by simp; omega
      clear hy
      go_enter Tryd.func31, Tryd.ntmps31
      go_wp2_with fail
      refine HS.out.mono ?_
      rintro e w1 ⟨rfl, rfl⟩
      go_wp2_with fail
      go_ret2
      exact ⟨rfl, Chg.refl _ _⟩
end Go.Proofs.YtilacamhjibneaaDoor

/- Parts, both, at any input. Their conditions are their premises. -/
namespace Go.Proofs.YtilacamhjibneaaDoor
open Go.RowKit

/-- How many of each part there are. -/
def cntL (V : List (List Nat)) (t : List Nat) (Y : Nat) : List Nat := (List.range V.length).map fun c => (gen V Y t).count c
theorem cntL_len (V : List (List Nat)) (t : List Nat) (Y : Nat) : (cntL V t Y).length = V.length := by simp [cntL]
theorem cntL_at (V : List (List Nat)) (t : List Nat) (Y : Nat) {c : Nat} (h : c < V.length) : at0 (cntL V t Y) c = (gen V Y t).count c := by
  unfold at0 cntL
  rw [List.getElem?_map, List.getElem?_range h]
  rfl
def bigC (V : List (List Nat)) (t : List Nat) (Y : Nat) : Nat → Bool := bigF (cntL V t Y)
theorem bigF_iff (T : List Nat) : ∀ k, bigF T k = true ↔ ∃ j, j < k ∧ 1152921504606846976 < at0 T j
  | 0 => by simp [bigF]
  | k + 1 => by
    rw [bigF, Bool.or_eq_true, bigF_iff T k, decide_eq_true_eq]
    constructor
    · rintro (⟨j, h1, h2⟩ | h)
      · exact ⟨j, by omega, h2⟩
      · exact ⟨k, by omega, h⟩
    · rintro ⟨j, h1, h2⟩
      by_cases hj : j = k
      · subst hj; exact .inr h2
      · exact .inl ⟨j, by omega, h2⟩
theorem big_aged {V : List (List Nat)} (hV : WF V) {t : List Nat} (ht : ∀ c ∈ t, c < V.length) (hl : t.length ≤ 30) (Y : Nat) : bigF (agedF V t Y) V.length = bigC V t Y V.length ∧ (bigC V t Y V.length = false → agedF V t Y = cntL V t Y) := by
  have hat := fun c hc => agedF_at hV ht (show t.length ≤ lim by unfold lim; omega) Y c hc
  constructor
  · rw [Bool.eq_iff_iff]
    unfold bigC
    rw [bigF_iff, bigF_iff]
    constructor
    · rintro ⟨j, h1, h2⟩
      rw [hat j h1] at h2
      exact ⟨j, h1, by rw [cntL_at V t Y h1]; unfold lim at h2; omega⟩
    · rintro ⟨j, h1, h2⟩
      rw [cntL_at V t Y h1] at h2
      exact ⟨j, h1, by rw [hat j h1]; unfold lim; omega⟩
  · intro hb
    refine List.ext_getElem (by rw [agedF_len, cntL_len]) (fun j h1 h2 => ?_)
    have hj : j < V.length := by rw [agedF_len] at h1; exact h1
    have e1 := hat j hj
    have e2 := cntL_at V t Y hj
    rw [at0_lt_of h1] at e1
    rw [at0_lt_of h2] at e2
    rw [e1, e2]
    have h3 : ¬ 1152921504606846976 < (gen V Y t).count j := fun h => by
      have : bigC V t Y V.length = true := (bigF_iff _ _).2 ⟨j, hj, by rw [cntL_at V t Y hj]; exact h⟩
      rw [hb] at this
      cases this
    unfold lim
    omega
/-- What both answer with. -/
def parX (V : List (List Nat)) (t : List Nat) (Y : Nat) : List Int := if bigC V t Y V.length = true then [] else natI (cntL V t Y)
def parE (V : List (List Nat)) (t : List Nat) (Y : Nat) : Int := if bigC V t Y V.length = true then 4 else 0
theorem natI_size (l : List Nat) : (natI l).length = l.length := by simp [natI]
theorem sli_of_nats {w : World} {g c : Nat} {l : List Nat} (h : NatsAt w g 0 l) : SlI w (.slice (some ⟨g, 0, none⟩) l.length c) (natI l) := by
  refine ⟨_, g, 0, c, by rw [natI_size], .inr rfl, fun k hk => ?_⟩
  have := h k (by rwa [natI_size] at hk)
  rw [this]
  simp [natI]
theorem sli_none (w : World) : SlI w (.slice none 0 0) [] := ⟨none, 0, 0, 0, rfl, .inl rfl, fun k hk => by simp at hk⟩
theorem parts_is (V : List (List Nat)) (hV : WF V) (t : List Nat) (ht : ∀ c ∈ t, c < V.length) (hl : t.length ≤ 30) (Y : Nat) (hY : Y ≤ 1000) (b off cap : Nat) (w : World) (hv : VAt w b off V) :
    Calls Tryd.prog 34 #[.slice (some ⟨b, off, none⟩) V.length cap, .string (str t), .int .i64 (Y : Int)] w (RetI (parX V t Y) (parE V t Y) w) := by
  refine (parts_ok V hV t ht hl Y hY b off cap w hv).mono ?_
  rintro r w' ⟨h1, h2⟩
  obtain ⟨b1, b2⟩ := big_aged hV ht hl Y
  rw [agedF_len, b1] at h1
  unfold parX parE
  by_cases hb : bigC V t Y V.length = true
  · rw [if_pos hb] at h1
    rw [if_pos hb, if_pos hb]
    exact ⟨⟨_, h1, sli_none _⟩, h2⟩
  · have hf : bigC V t Y V.length = false := by simpa using hb
    rw [if_neg hb, b2 hf] at h1
    rw [if_neg hb, if_neg hb]
    obtain ⟨g, c, h3, h4⟩ := h1
    rw [← cntL_len V t Y] at h3
    exact ⟨⟨_, h3, sli_of_nats h4⟩, h2⟩

set_option maxRecDepth 100000 in
set_option maxHeartbeats 1000000 in
theorem rparts_is (V : List (List Nat)) (hV : WF V) (t : List Nat) (ht : ∀ c ∈ t, c < V.length) (hl : t.length ≤ 30) (Y : Nat) (hY : Y ≤ 1000) (b off cap : Nat) (w : World) (hv : VAt w b off V) :
    Calls Tryd.prog 35 #[.slice (some ⟨b, off, none⟩) V.length cap, .string (str t), .int .i64 (Y : Int)] w (RetI (parX V t Y) (parE V t Y) w) := by
  have HS := Lib.hid (rshoot_ok V hV t ht hl b off cap w hv)
  have hn6 := hV.le
  have d1 : decide ((Y : Int) < 0) = false := by simp
  have d2 : decide ((1000 : Int) < (Y : Int)) = false := by simp; omega
  have HCT := Lib.hid (rcounts_any V hV t ht (by omega) Y hY b off cap w hv)
  have HRA := Lib.hid (fun c hc => ragF_at hV ht (show t.length ≤ M63 by unfold M63; omega) Y c hc)
  have HRL := Lib.hid (ragF_len V t Y)
  have HCL := Lib.hid (cntL_len V t Y)
  have HCA := Lib.hid (fun c hc => cntL_at V t Y (c := c) hc)
  have HPX := Lib.hid (show ∀ T, T = cntL V t Y → ∀ q, bigF T V.length = q → parX V t Y = (if q = true then [] else natI T) ∧ parE V t Y = (if q = true then 4 else 0) from by rintro T rfl q rfl; exact ⟨rfl, rfl⟩)
  obtain ⟨X, hX⟩ : ∃ X, parX V t Y = X := ⟨_, rfl⟩
  obtain ⟨E, hE⟩ : ∃ E, parE V t Y = E := ⟨_, rfl⟩
  rw [hX, hE] at HPX ⊢
  obtain ⟨T, hT⟩ : ∃ T, cntL V t Y = T := ⟨_, rfl⟩
  rw [hT] at HPX HCL
  simp only [hT] at HCA
  have HPX2 := Lib.hid (HPX.out T rfl)
  obtain ⟨U, hU⟩ : ∃ U, ragF V t Y = U := ⟨_, rfl⟩
  rw [hU] at HRL HCT
  simp only [hU] at HRA
  have HUT : Hid (∀ c, c < V.length → at0 U c = min (at0 T c) M63) := Lib.hid (fun c hc => by rw [HRA.out c hc, HCA.out c hc])
  clear hX hE hT hU HPX HRA HCA hV ht hv
  go_enter Tryd.func35, Tryd.ntmps35
  go_wp2_with fail
  refine HS.out.mono ?_
  rintro e w1 ⟨rfl, rfl⟩
  go_wp2_with fail
  refine HCT.out.mono ?_
  rintro e w2 ⟨⟨g, rfl, _, hb⟩, hc2⟩
  have HB := Lib.hid hb; have HC2 := Lib.hid hc2
  clear hb hc2
  go_wp2_with fail
  go_loopg [10, 11] V.length (fun gm ov kv wr => ∃ k : Nat, k ≤ V.length ∧ gm = V.length - k ∧ kv = .int .i64 (k : Int) ∧ bigF T k = false ∧ wr.ownsRow w2.heap.size 3 1 ov (T.take k).length (nv (T.take k)) ∧ Chg (fun _ => False) w2 wr)
  case atStart => exact ⟨0, by omega, by omega, rfl, rfl, World.ownsRow_nil w2 _ 3 1, Chg.refl _ _⟩
  case round =>
    obtain ⟨k, hk, rfl, rfl, hbg, how, hc⟩ := hrel
    have HBG := Lib.hid hbg; have HOW := Lib.hid how; have HC := Lib.hid hc
    clear hbg how hc
    by_cases hkn : k < V.length
    · have d0 : decide (k < V.length) = true := by simpa using hkn
      have k1 : wr.cell? ⟨g, k, none⟩ = _ := (HC.out.blk HB.out (fun x => x)).cell_some (uv_at (N := U) (i := k) (by rw [HRL.out]; exact hkn))
      have HBT := Lib.hid (fun h => bigF_true (T := T) (j := k) h (k := V.length) hkn)
      have HNX := Lib.hid (show bigF T (k + 1) = (bigF T k || decide (1152921504606846976 < at0 T k)) from rfl)
      have HUK := Lib.hid (HUT.out k hkn)
      have hkT : k < T.length := by rw [HCL.out]; exact hkn
      have HTK := Lib.hid (show T.take (k + 1) = T.take k ++ [at0 T k] by rw [List.take_succ_eq_append_getElem hkT, at0_lt_of hkT])
      have htl : (T.take k).length = k := by rw [List.length_take]; omega
      have HTL := Lib.hid htl
      clear htl hkT
      obtain ⟨m, hm⟩ : ∃ m, at0 T k = m := ⟨_, rfl⟩
      obtain ⟨x, hx⟩ : ∃ x, at0 U k = x := ⟨_, rfl⟩
      rw [hm] at HNX HUK HTK
      rw [hx] at k1 HUK
      have HBT2 : Hid (1152921504606846976 < m → bigF T V.length = true) := Lib.hid (fun h => HBT.out (by rw [hm]; exact h))
      clear hm hx HBT
      by_cases hbig : 1152921504606846976 < m
      · have HBB : Hid (X = [] ∧ E = 4) := Lib.hid (by have h := HPX2.out true (HBT2.out hbig); exact ⟨by simpa using h.1, by simpa using h.2⟩)
        have hxb : 1152921504606846976 < x := by rw [HUK.out]; unfold M63; omega
        have e1 : (1152921504606846976 : Int) < (x : Int) := by omega
        have HN := Lib.hid (sli_none wr)
        go_wp2_with fail
        go_ret2
        rw [HBB.out.1, HBB.out.2]
        exact ⟨⟨_, rfl, HN.out⟩, HC2.out.trans HC.out (fun _ x => x.elim)⟩
      · have hxm : x = m := by rw [HUK.out]; unfold M63; omega
        subst hxm
        have e1 : ¬ (1152921504606846976 : Int) < (x : Int) := by omega
        have e2 : decide (1152921504606846976 < x) = false := by simpa using hbig
        have hw : wrap64 (x : Int) = (x : Int) := wrap_id (x := (x : Int)) (by omega)
        rw [HBG.out, decide_eq_false hbig] at HNX
        obtain ⟨g3, hg3⟩ : ∃ g3, wr.heap.size = g3 := ⟨_, rfl⟩
        have HOA := Lib.hid (owns_chg HOW.out ((Chg.refl (fun _ => False) wr).alloc (.cells #[.int .i64 (x : Int)] 3)))
        have HXX : Hid (NatsAt (wr.alloc (.cells #[.int .i64 (x : Int)] 3)) g3 0 [x]) := Lib.hid (by
          rw [← hg3]
          intro j hj
          obtain rfl : j = 0 := by simpa using hj
          exact (Blk.new wr #[.int .i64 (x : Int)] 3).cell_some (i := 0) rfl)
        have HCA := Lib.hid (HC.out.alloc (.cells #[.int .i64 (x : Int)] 3))
        clear hbig
        go_wp2_with (at_builtin; refine wpList_app rfl (.tmp 39) (.tmp 45) rfl w2.heap.size u10 (T.take k) [x] (by simp [Act.eval]) HOA.out (some ⟨g3, 0, none⟩) 1 (by simp [Act.eval]) (.inr ⟨_, _, rfl, HXX.out⟩) (by rw [HTL.out]; simp; omega) HCA.out.size ?_; intro v2 w4 hown2 hc4)
        clear hg3
        have HC4 := Lib.hid (chg_new (HCA.out.mono (fun _ x => x.elim)) hc4)
        have HO4 := Lib.hid hown2
        clear hown2 hc4
        go_roundg (V.length - (k + 1))
        case measure => omega
        case rel => exact ⟨k + 1, by omega, rfl, by go_num, by rw [HNX.out]; rfl, by rw [HTK.out]; exact HO4.out, HC4.out⟩
    · obtain rfl : k = V.length := by omega
      have d0 : decide (V.length < V.length) = false := by simp
      have HBB : Hid (X = natI T ∧ E = 0) := Lib.hid (by have h := HPX2.out false HBG.out; exact ⟨by simpa using h.1, by simpa using h.2⟩)
      have hT : T.take V.length = T := List.take_of_length_le (by rw [HCL.out]; exact Nat.le_refl _)
      rw [hT] at HOW
      have HSL := Lib.hid (sli_of_owns HOW.out)
      clear hT
      go_wp2_with fail
      go_ret2
      rw [HBB.out.1, HBB.out.2]
      exact ⟨⟨_, rfl, HSL.out⟩, HC2.out.trans HC.out (fun _ x => x.elim)⟩
end Go.Proofs.YtilacamhjibneaaDoor

/- The law VineGrows, at any input. No condition but the arguments' cells. -/
namespace Go.Proofs.YtilacamhjibneaaDoor
open Go.RowKit

def GroBoth (P : List ByteArray) (s : ByteArray) (years : Int) (x : ByteArray) (e : Int) : Prop := ∀ (v : Value) (w : World), SlS w v P →
  (Calls Tryd.prog 30 #[v, .string s, .int .i64 years] w fun r w' => r = .returned (.tuple #[.string x, .int .i64 e]) ∧ Chg (fun _ => False) w w') ∧
  (Calls Tryd.prog 31 #[v, .string s, .int .i64 years] w fun r w' => r = .returned (.tuple #[.string x, .int .i64 e]) ∧ Chg (fun _ => False) w w')
def ParBoth (P : List ByteArray) (s : ByteArray) (years : Int) (X : List Int) (e : Int) : Prop := ∀ (v : Value) (w : World), SlS w v P →
  Calls Tryd.prog 34 #[v, .string s, .int .i64 years] w (RetI X e w) ∧ Calls Tryd.prog 35 #[v, .string s, .int .i64 years] w (RetI X e w)

set_option maxRecDepth 100000 in
set_option maxHeartbeats 1000000 in
theorem gro_both (P : List ByteArray) (s : ByteArray) (years : Int) (hyi : I64 years) (hn : P.length ≤ 1000) (hz : ∀ p ∈ P, p.size ≤ 1000) (hzs : s.size ≤ 1000) : ∃ x e, GroBoth P s years x e := by
  by_cases he : errS P s = 0
  · obtain ⟨V, t, rfl, rfl, hV, hl, ht⟩ := shot_of he
    have hlv : ∃ a e, groV V t years = .tuple #[.string a, .int .i64 e] := by
      unfold groV
      split
      · exact ⟨_, _, rfl⟩
      · split <;> exact ⟨_, _, rfl⟩
    obtain ⟨a, e, hA⟩ := hlv
    refine ⟨a, e, fun v w hv => ?_⟩
    obtain ⟨ao, b, off, cap, rfl, hst, ha⟩ := hv.form
    have hpos := hV.pos
    obtain rfl := ha.resolve_left (fun e => by have h0 := congrArg List.length e; rw [List.length_map, List.length_nil] at h0; omega)
    have hva := vat_of hst
    rw [List.length_map]
    have h1 := grow_ok V hV t ht hl years hyi b off cap w hva
    have h2 := rgrow_ok V hV t ht hl years hyi b off cap w hva
    rw [hA] at h1 h2
    exact ⟨h1, h2⟩
  · refine ⟨⟨#[]⟩, (errS P s : Nat), fun v w hv => ?_⟩
    obtain ⟨ao, b, off, cap, rfl, hst, ha⟩ := hv.form
    have HS := Lib.hid (shot_any P s ao cap b off w hst ha hn hz hzs)
    rw [show shotV ao cap P s = .tuple #[.slice none 0 0, .int .i64 (errS P s : Nat)] by unfold shotV; rw [if_neg he]] at HS
    have HR := Lib.hid (rshoot_any P s ao cap b off w hst ha hn hz hzs)
    obtain ⟨E, hE⟩ : ∃ E, errS P s = E := ⟨_, rfl⟩
    rw [hE] at HS HR ⊢
    have dn : (((E : Nat) : Int) != 0) = true := by simpa [hE] using he
    clear hE he hst ha hv
    constructor
    · go_enter Tryd.func30, Tryd.ntmps30
      go_wp2_with fail
      refine HS.out.mono ?_
      rintro e w1 ⟨rfl, rfl⟩
      go_wp2_with fail
      go_ret2
      exact ⟨rfl, Chg.refl _ _⟩
    · go_enter Tryd.func31, Tryd.ntmps31
      go_wp2_with fail
      refine HR.out.mono ?_
      rintro e w1 ⟨rfl, rfl⟩
      go_wp2_with fail
      go_ret2
      exact ⟨rfl, Chg.refl _ _⟩

set_option maxRecDepth 100000 in
set_option maxHeartbeats 1000000 in
theorem par_both (P : List ByteArray) (s : ByteArray) (years : Int) (hyi : I64 years) (hn : P.length ≤ 1000) (hz : ∀ p ∈ P, p.size ≤ 1000) (hzs : s.size ≤ 1000) : ∃ X e, X.length ≤ 10 ∧ ParBoth P s years X e := by
  unfold I64 at hyi
  by_cases he : errS P s = 0
  · obtain ⟨V, t, rfl, rfl, hV, hl, ht⟩ := shot_of he
    have h6 := hV.le
    by_cases hy : 0 ≤ years ∧ years ≤ 1000
    · obtain ⟨Y, rfl⟩ : ∃ Y : Nat, years = (Y : Int) := ⟨years.toNat, by omega⟩
      refine ⟨parX V t Y, parE V t Y, ?_, fun v w hv => ?_⟩
      · unfold parX
        split
        · simp
        · rw [natI_size, cntL_len]; omega
      obtain ⟨ao, b, off, cap, rfl, hst, ha⟩ := hv.form
      have hpos := hV.pos
      obtain rfl := ha.resolve_left (fun e => by have h0 := congrArg List.length e; rw [List.length_map, List.length_nil] at h0; omega)
      have hva := vat_of hst
      rw [List.length_map]
      exact ⟨parts_is V hV t ht hl Y (by omega) b off cap w hva, rparts_is V hV t ht hl Y (by omega) b off cap w hva⟩
    · refine ⟨[], 3, by simp, fun v w hv => ?_⟩
      obtain ⟨ao, b, off, cap, rfl, hst, ha⟩ := hv.form
      have hpos := hV.pos
      obtain rfl := ha.resolve_left (fun e => by have h0 := congrArg List.length e; rw [List.length_map, List.length_nil] at h0; omega)
      have hva := vat_of hst
      rw [List.length_map]
      have HS := Lib.hid (shot_ok V hV t ht hl b off cap w hva)
      have HR := Lib.hid (rshoot_ok V hV t ht hl b off cap w hva)
      have HYR := Lib.hid (yearly_any years w)
      have hd : decide (0 ≤ years ∧ years ≤ 1000) = false := by simpa using hy
      rw [hd] at HYR
      have HN := Lib.hid (sli_none w)
      clear hd hV ht hv hva hst ha hz hzs hn
      constructor
      · clear hy
        go_enter Tryd.func34, Tryd.ntmps34
        go_wp2_with fail
        refine HS.out.mono ?_
        rintro e w1 ⟨rfl, rfl⟩
        go_wp2_with fail
        refine HYR.out.mono ?_
        rintro e w1 ⟨rfl, rfl⟩
        go_wp2_with fail
        go_ret2
        exact ⟨⟨_, rfl, HN.out⟩, Chg.refl _ _⟩
      · by_cases h0 : years < 0
        · have d1 : decide (years < 0) = true := by simpa using h0
          clear hy
          go_enter Tryd.func35, Tryd.ntmps35
          go_wp2_with fail
          refine HR.out.mono ?_
          rintro e w1 ⟨rfl, rfl⟩
          go_wp2_with fail
          go_ret2
          exact ⟨⟨_, rfl, HN.out⟩, Chg.refl _ _⟩
        · have d1 : decide (years < 0) = false := by simpa using h0
          have d2 : decide ((1000 : Int) < years) = true := by simp; omega
          clear hy
          go_enter Tryd.func35, Tryd.ntmps35
          go_wp2_with fail
          refine HR.out.mono ?_
          rintro e w1 ⟨rfl, rfl⟩
          go_wp2_with fail
          go_ret2
          exact ⟨⟨_, rfl, HN.out⟩, Chg.refl _ _⟩
  · refine ⟨[], (errS P s : Nat), by simp, fun v w hv => ?_⟩
    obtain ⟨ao, b, off, cap, rfl, hst, ha⟩ := hv.form
    have HS := Lib.hid (shot_any P s ao cap b off w hst ha hn hz hzs)
    rw [show shotV ao cap P s = .tuple #[.slice none 0 0, .int .i64 (errS P s : Nat)] by unfold shotV; rw [if_neg he]] at HS
    have HR := Lib.hid (rshoot_any P s ao cap b off w hst ha hn hz hzs)
    have HN := Lib.hid (sli_none w)
    obtain ⟨E, hE⟩ : ∃ E, errS P s = E := ⟨_, rfl⟩
    rw [hE] at HS HR ⊢
    have dn : (((E : Nat) : Int) != 0) = true := by simpa [hE] using he
    clear hE he hst ha hv
    constructor
    · go_enter Tryd.func34, Tryd.ntmps34
      go_wp2_with fail
      refine HS.out.mono ?_
      rintro e w1 ⟨rfl, rfl⟩
      go_wp2_with fail
      go_ret2
      exact ⟨⟨_, rfl, HN.out⟩, Chg.refl _ _⟩
    · go_enter Tryd.func35, Tryd.ntmps35
      go_wp2_with fail
      refine HR.out.mono ?_
      rintro e w1 ⟨rfl, rfl⟩
      go_wp2_with fail
      go_ret2
      exact ⟨⟨_, rfl, HN.out⟩, Chg.refl _ _⟩

set_option maxRecDepth 100000 in
set_option maxHeartbeats 1000000 in
theorem vineGrows_law (P : List ByteArray) (s : ByteArray) (years : Int) (hpi : I64 years) (v : Value) (w : World) (hv : SlS w v P) (hs : s.size ≤ maxLen) :
    Calls Tryd.prog 7 #[v, .string s, .int .i64 years] w fun e w' => e = .returned (.bool true) ∧ Chg (fun _ => False) w w' := by
  have HF := Lib.hid (few_any P s v w hv hs)
  by_cases hfew : fewV P s = true
  · obtain ⟨hn, hz, hzs⟩ := few_small hfew
    rw [hfew] at HF
    obtain ⟨x, e1, hg⟩ := gro_both P s years hpi hn hz hzs
    obtain ⟨n, e2, hl⟩ := lon_both P s years hpi hn hz hzs
    obtain ⟨X, e3, hX, hp⟩ := par_both P s years hpi hn hz hzs
    have HG := Lib.hid hg; have HL := Lib.hid hl; have HP := Lib.hid hp
    have HV := Lib.hid hv
    unfold I64 at hpi
    clear hl hg hp hfew hn hz hzs hv
    go_enter Tryd.func7, Tryd.ntmps7
    go_wp2_with fail
    refine HF.out.mono ?_
    rintro e w1 ⟨rfl, rfl⟩
    go_wp2_with fail
    refine ((HG.out v _ HV.out).1).mono ?_
    rintro r w2 ⟨rfl, hc⟩
    have HC2 := Lib.hid hc
    clear hc
    go_wp2_with fail
    refine ((HG.out v w2 (HV.out.chg HC2.out)).2).mono ?_
    rintro r w3 ⟨rfl, hc⟩
    have HC3 := Lib.hid (HC2.out.trans hc (fun _ x => x.elim))
    clear hc
    go_wp2_with fail
    refine ((HL.out v w3 (HV.out.chg HC3.out)).1).mono ?_
    rintro r w4 ⟨rfl, hc⟩
    have HC4 := Lib.hid (HC3.out.trans hc (fun _ x => x.elim))
    clear hc
    go_wp2_with fail
    refine ((HL.out v w4 (HV.out.chg HC4.out)).2).mono ?_
    rintro r w5 ⟨rfl, hc⟩
    have HC5 := Lib.hid (HC4.out.trans hc (fun _ x => x.elim))
    clear hc
    go_wp2_with fail
    refine ((HP.out v w5 (HV.out.chg HC5.out)).1).mono ?_
    rintro r w6 ⟨⟨va, rfl, hsa⟩, hc⟩
    have HC6 := Lib.hid (HC5.out.trans hc (fun _ x => x.elim)); have HSA := Lib.hid hsa
    clear hc hsa
    go_wp2_with fail
    refine ((HP.out v w6 (HV.out.chg HC6.out)).2).mono ?_
    rintro r w7 ⟨⟨vb, rfl, hsb⟩, hc⟩
    have HC7 := Lib.hid (HC6.out.trans hc (fun _ x => x.elim)); have HSB := Lib.hid hsb; have HSA7 := Lib.hid (sli_chg HSA.out hc)
    clear hc hsb
    have HSM := Lib.hid (same_any X X va vb w7 HSA7.out HSB.out (by omega) (by omega))
    rw [show decide (X = X) = true by simp] at HSM
    go_wp2_with fail
    refine HSM.out.mono ?_
    rintro r w8 ⟨rfl, q, rfl⟩
    have HC8 := Lib.hid (HC7.out.drewN q)
    go_wp2_with fail
    refine (alive_any _).mono ?_
    rintro e w9 ⟨rfl, hc9⟩
    have HC9 := Lib.hid (HC8.out.trans hc9 (fun _ x => x.elim))
    clear hc9
    go_wp2_with fail
    go_ret
    exact ⟨rfl, HC9.out⟩
  · have hff : fewV P s = false := by simpa using hfew
    rw [hff] at HF
    clear hfew hff hv
    go_enter Tryd.func7, Tryd.ntmps7
    go_wp2_with fail
    refine HF.out.mono ?_
    rintro e w1 ⟨rfl, rfl⟩
    go_wp2_with fail
    refine (alive_any w1).mono ?_
    rintro e w2 ⟨rfl, hc2⟩
    have HC2 := Lib.hid hc2
    clear hc2
    go_wp2_with fail
    go_ret
    exact ⟨rfl, HC2.out⟩
end Go.Proofs.YtilacamhjibneaaDoor
