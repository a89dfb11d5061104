/- Texts on the vines, laid together (V90, V94, V95, V96, V104). Their conditions are their premises. -/
import Derived.Test.YtilacamhjibneaaDoorK10
set_option linter.unusedVariables false
/- The endless word is what its letters become; the words of Fibonacci's vine. Plain facts. Their conditions are their premises. -/
namespace Go.Proofs.YtilacamhjibneaaDoor
open Go.RowKit

def ewL (V : List (List Nat)) (i p m : Nat) : List Nat := (List.range m).map fun t => ewF V i (p + t)
theorem ewL_len (V : List (List Nat)) (i p m : Nat) : (ewL V i p m).length = m := by simp [ewL]
theorem ewL_at (V : List (List Nat)) (i p : Nat) {m t : Nat} (h : t < m) : at0 (ewL V i p m) t = ewF V i (p + t) := by
  unfold at0 ewL
  rw [List.getElem?_map, List.getElem?_range h]
  rfl
theorem ewL_app (V : List (List Nat)) (i p m k : Nat) : ewL V i p (m + k) = ewL V i p m ++ ewL V i (p + m) k := by
  unfold ewL
  rw [List.range_add, List.map_append, List.map_map]
  congr 1
  refine List.map_congr_left (fun t _ => ?_)
  show ewF V i (p + (m + t)) = _
  rw [Nat.add_assoc]
theorem nat_ext2 {l m : List Nat} (hl : l.length = m.length) (h : ∀ j, j < l.length → at0 l j = at0 m j) : l = m := by
  refine List.ext_getElem hl (fun j h1 h2 => ?_)
  have := h j h1
  rwa [at0_lt_of h1, at0_lt_of h2] at this
/-- A piece of a word of that kind. -/
theorem ewL_cut (V : List (List Nat)) (i p L o n : Nat) (h : o + n ≤ L) : ((ewL V i p L).drop o).take n = ewL V i (p + o) n := by
  refine nat_ext2 (by rw [List.length_take, List.length_drop, ewL_len, ewL_len]; omega) (fun j hj => ?_)
  rw [List.length_take, List.length_drop, ewL_len] at hj
  rw [ewL_at V i (p + o) (show j < n by omega)]
  unfold at0
  rw [List.getElem?_take_of_lt (by omega), List.getElem?_drop]
  have := ewL_at V i p (show o + j < L by omega)
  unfold at0 at this
  rw [this, Nat.add_assoc]
section
variable {V : List (List Nat)} {i : Nat} (hV : WF V) (hi : i < V.length) (hb : budV V i = true)
include hV hi hb
theorem bg_ew (K : Nat) : bg V i K = ewL V i 0 (bg V i K).length := by
  refine nat_ext2 (by rw [ewL_len]) (fun j hj => ?_)
  rw [ewL_at V i 0 hj, Nat.zero_add, ew_any hV hi hb hj]
theorem pre_ew (j : Nat) : grow1 V (ewL V i 0 j) = ewL V i 0 (grow1 V (ewL V i 0 j)).length := by
  cases j with
  | zero => rfl
  | succ j =>
    obtain ⟨h1, h2⟩ := bg_grow hb j (fun k _ => fed_bud hV hi hb k)
    have h3 : (bg V i j).take (j + 1) = ewL V i 0 (j + 1) := by
      rw [bg_ew hV hi hb j]
      have := ewL_cut V i 0 (bg V i j).length 0 (j + 1) (by omega)
      rwa [List.drop_zero] at this
    rw [h3] at h1
    rw [← h1]
    exact bg_ew hV hi hb j
/-- The place where what letter j becomes begins. -/
theorem part_ew (j k : Nat) (hk : k < (part V (ewF V i j)).length) : ewF V i ((grow1 V (ewL V i 0 j)).length + k) = at0 (part V (ewF V i j)) k := by
  have h1 := pre_ew hV hi hb (j + 1)
  have h2 : ewL V i 0 (j + 1) = ewL V i 0 j ++ [ewF V i j] := by
    rw [ewL_app]
    congr 1
    simp [ewL]
  have h3 : grow1 V (ewL V i 0 (j + 1)) = grow1 V (ewL V i 0 j) ++ part V (ewF V i j) := by
    rw [h2]
    unfold grow1
    rw [List.flatMap_append]
    simp
  obtain ⟨q, hq⟩ : ∃ q, (grow1 V (ewL V i 0 j)).length = q := ⟨_, rfl⟩
  have h4 : at0 (grow1 V (ewL V i 0 (j + 1))) (q + k) = at0 (part V (ewF V i j)) k := by
    rw [h3]
    unfold at0
    rw [List.getElem?_append_right (by omega), hq, Nat.add_sub_cancel_left]
  have hlen : (grow1 V (ewL V i 0 (j + 1))).length = q + (part V (ewF V i j)).length := by rw [h3, List.length_append, hq]
  rw [hq, ← h4, h1, ewL_at V i 0 (by omega), Nat.zero_add]
theorem grow_ew (j m : Nat) : grow1 V (ewL V i j m) = ewL V i (grow1 V (ewL V i 0 j)).length (grow1 V (ewL V i j m)).length := by
  have h1 := pre_ew hV hi hb (j + m)
  have h2 : grow1 V (ewL V i 0 (j + m)) = grow1 V (ewL V i 0 j) ++ grow1 V (ewL V i j m) := by
    rw [ewL_app, Nat.zero_add]
    unfold grow1
    rw [List.flatMap_append]
  rw [h2, List.length_append, ewL_app, Nat.zero_add, ← pre_ew hV hi hb j] at h1
  exact List.append_cancel_left h1
theorem gen_ew : ∀ y, gen V y [i] = ewL V i 0 (gen V y [i]).length
  | 0 => by
    have h := bg_ew hV hi hb 0
    obtain ⟨r, hr, _⟩ := bud_parts hb
    show [i] = ewL V i 0 1
    have : ewF V i 0 = i := by
      show at0 (part V i) 0 = i
      rw [hr]; rfl
    simp [ewL, this]
  | y + 1 => by
    rw [gen_succ, gen_ew y]
    exact pre_ew hV hi hb _
end

/-- Fibonacci's word: its pieces of ten letters. -/
def fw : List (List Nat) := dis (win (bg fib 0 40) 10 50)
theorem bud_fib : budV fib 0 = true := by decide +kernel
theorem fw_closed : ∀ x ∈ fw, (grow1 fib x).take 10 ∈ fw ∧ (at0 x 0 = 0 → ((grow1 fib x).drop 1).take 10 ∈ fw) := by decide +kernel
theorem fw_first : (bg fib 0 40).take 10 ∈ fw ∧ ((bg fib 0 40).drop 1).take 10 ∈ fw := by decide +kernel
theorem bg40_len : (bg fib 0 40).length = 66 := by decide +kernel
end Go.Proofs.YtilacamhjibneaaDoor

/- At finds the letters of the shoot; longer pieces are at most one less. Plain facts. Their conditions are their premises. -/
namespace Go.Proofs.YtilacamhjibneaaDoor
open Go.RowKit

theorem tab_gen {V : List (List Nat)} (hV : WF V) {d : Nat} (hd : d < V.length) (y : Nat) : at0 (tab V y) d = min (gen V y [d]).length M63 := by
  have h := lng_gen hV y [d] (by intro c hc; simp at hc; omega)
  rw [lngV_eq] at h
  have h2 : sm [d] (tab V y) = at0 (tab V y) d := by simp [sm]
  have h3 := tab_le V y d
  rw [h2] at h
  omega
theorem fnd_split {R : List Nat} : ∀ {s : List Nat} {l c m : Nat}, fnd s R l = some (c, m) → ∃ a b, s = a ++ c :: b ∧ l = sm a R + m ∧ m < at0 R c
  | [], l, c, m, h => by simp [fnd] at h
  | d :: s, l, c, m, h => by
    rw [fnd] at h
    by_cases hd : at0 R d ≤ l
    · rw [if_pos hd] at h
      obtain ⟨a, b, h1, h2, h3⟩ := fnd_split h
      refine ⟨d :: a, b, by rw [h1]; rfl, ?_, h3⟩
      have : sm (d :: a) R = at0 R d + sm a R := by simp [sm]
      omega
    · rw [if_neg hd] at h
      injection h with h
      injection h with h1 h2
      subst h1 h2
      exact ⟨[], s, rfl, by simp [sm], by omega⟩
theorem sm_gen {V : List (List Nat)} (hV : WF V) (y : Nat) : ∀ (a : List Nat), (∀ d ∈ a, d < V.length) → sm a (tab V y) < M63 → (gen V y a).length = sm a (tab V y)
  | [], _, _ => by rw [gen_nil]; rfl
  | d :: a, h, hs => by
    have e : sm (d :: a) (tab V y) = at0 (tab V y) d + sm a (tab V y) := by simp [sm]
    have ih := sm_gen hV y a (fun x hx => h x (by simp [hx])) (by omega)
    have hg := gen_app V y [d] a
    rw [List.singleton_append] at hg
    have ht := tab_gen hV (h d (by simp)) y
    rw [hg, List.length_append, ih, e]
    omega
theorem at_gen {V : List (List Nat)} (hV : WF V) : ∀ (y : Nat) (s : List Nat) (l c : Nat), (∀ d ∈ s, d < V.length) → l < M63 → atF V y s l = some c → l < (gen V y s).length ∧ at0 (gen V y s) l = c := by
  have key : ∀ (y : Nat) (a b : List Nat) (c m : Nat), (gen V y (a ++ c :: b)) = gen V y a ++ (gen V y [c] ++ gen V y b) := by
    intro y a b c m
    rw [gen_app]
    congr 1
    have := gen_app V y [c] b
    rwa [List.singleton_append] at this
  have pick : ∀ (l m r : List Nat) (k : Nat), k < m.length → at0 (l ++ (m ++ r)) (l.length + k) = at0 m k := by
    intro l m r k hk
    unfold at0
    rw [List.getElem?_append_right (by omega), Nat.add_sub_cancel_left, List.getElem?_append_left hk]
  intro y
  induction y with
  | zero =>
    intro s l c hs hl h
    unfold atF at h
    cases hf : fnd s (tab V 0) l with
    | none => rw [hf] at h; simp at h
    | some r =>
      obtain ⟨d, m⟩ := r
      rw [hf] at h
      simp at h
      subst h
      obtain ⟨a, b, rfl, h2, h3⟩ := fnd_split hf
      have hd : d < V.length := hs d (by simp)
      have h4 := sm_gen hV 0 a (fun x hx => hs x (by simp [hx])) (by omega)
      have h5 := tab_gen hV hd 0
      have h6 : (gen V 0 [d]).length = 1 := rfl
      have hm : m = 0 := by omega
      subst hm
      rw [key 0 a b d 0]
      refine ⟨by rw [List.length_append, List.length_append, h6, h4]; omega, ?_⟩
      rw [h2, ← h4, pick _ _ _ 0 (by rw [h6]; omega)]
      rfl
  | succ y ih =>
    intro s l c hs hl h
    unfold atF at h
    cases hf : fnd s (tab V (y + 1)) l with
    | none => rw [hf] at h; simp at h
    | some r =>
      obtain ⟨d, m⟩ := r
      rw [hf] at h
      simp only at h
      obtain ⟨a, b, rfl, h2, h3⟩ := fnd_split hf
      have hd : d < V.length := hs d (by simp)
      obtain ⟨i1, i2⟩ := ih (part V d) m c (hV.part_le d).2 (by omega) h
      have h4 := sm_gen hV (y + 1) a (fun x hx => hs x (by simp [hx])) (by omega)
      rw [key (y + 1) a b d m]
      rw [← gen_one] at i1 i2
      refine ⟨by rw [List.length_append, List.length_append, h4]; omega, ?_⟩
      rw [h2, ← h4, pick _ _ _ m i1, i2]
/-- At of a bud is the letter of the endless word. -/
theorem at_ew {V : List (List Nat)} (hV : WF V) {i : Nat} (hi : i < V.length) (hb : budV V i = true) {y l c : Nat} (hl : l < M63) (h : atF V y [i] l = some c) : c = ewF V i l := by
  obtain ⟨h1, h2⟩ := at_gen hV y [i] l c (by intro d hd; simp at hd; omega) hl h
  rw [gen_ew hV hi hb y, ewL_at V i 0 h1, Nat.zero_add] at h2
  exact h2.symm
theorem fac_pos {l : List Nat} {n : Nat} (h : n ≤ l.length) : 1 ≤ facV l n := by
  unfold facV
  obtain ⟨d1, d2⟩ := dis_inv _ (win l n (l.length + 1 - n)) rfl
  have h3 : (l.drop 0).take n ∈ dis (win l n (l.length + 1 - n)) := by
    rw [d2]
    unfold win
    exact List.mem_map.2 ⟨0, List.mem_range.2 (by omega), rfl⟩
  have := List.length_pos_of_mem h3
  omega
theorem fac_less {l : List Nat} {n : Nat} (h : n + 1 ≤ l.length) : facV l n ≤ facV l (n + 1) + 1 := by
  unfold facV
  obtain ⟨d1, d2⟩ := dis_inv _ (win l n (l.length + 1 - n)) rfl
  obtain ⟨e1, e2⟩ := dis_inv _ (win l (n + 1) (l.length + 1 - (n + 1))) rfl
  have hle := nodup_len (dis (win l n (l.length + 1 - n))) ((dis (win l (n + 1) (l.length + 1 - (n + 1)))).map (List.take n) ++ [(l.drop (l.length - n)).take n]) d1 (fun x hx => by
    rw [d2] at hx
    unfold win at hx
    obtain ⟨p, hp, rfl⟩ := List.mem_map.1 hx
    have hp := List.mem_range.1 hp
    by_cases hl : p = l.length - n
    · subst hl; simp
    · refine List.mem_append.2 (.inl (List.mem_map.2 ⟨(l.drop p).take (n + 1), ?_, ?_⟩))
      · rw [e2]
        unfold win
        exact List.mem_map.2 ⟨p, List.mem_range.2 (by omega), rfl⟩
      · rw [List.take_take, Nat.min_eq_left (by omega)])
  simp only [List.length_append, List.length_map, List.length_singleton] at hle
  exact hle
end Go.Proofs.YtilacamhjibneaaDoor

/- Letter of what is no bud. Its conditions are its premises. -/
namespace Go.Proofs.YtilacamhjibneaaDoor
open Go.RowKit

set_option maxRecDepth 100000 in
set_option maxHeartbeats 1000000 in
theorem nobud_first (V : List (List Nat)) (hV : WF V) (i : Nat) (hi : i < V.length) (hb : budV V i = false) (many : Int) (b off cap : Nat) (w : World) (hva : VAt w b off V) :
    Calls Tryd.prog 47 #[.slice (some ⟨b, off, none⟩) V.length cap, .string (str [i]), .int .i64 many] w fun e w' => e = .returned (.tuple #[.slice none 0 0, .int .i64 10]) ∧ Chg (fun _ => False) w w' := by
  have hn6 := hV.le
  have HO := Lib.hid (of_ok V hV b off cap w hva)
  have HSH := Lib.hid (shoots_any (some ⟨b, off, none⟩) V.length cap (str [i]) w (by omega) (by rw [str_size]; simp))
  rw [okS_str (by omega) (t := [i]) (by intro c hc; simp at hc; subst hc; exact hi)] at HSH
  have HBD := Lib.hid (bud_any V hV i hi b off cap w hva)
  rw [hb] at HBD
  have h0s : ∀ bs, str [i] = bs → ∀ h : 0 < bs.size, (bs[0]'h).toNat = 97 + i := by
    rintro _ rfl h
    exact str_zero (p := [i]) (by simp) (by simp; omega) h
  have hs1 : (str [i]).size = 1 := str_size [i]
  obtain ⟨bs, hbs⟩ : ∃ bs, str [i] = bs := ⟨_, rfl⟩
  rw [hbs] at HSH hs1 ⊢
  have h00 := h0s bs hbs
  clear h0s
  have hmod : (((97 + i : Nat) : Int) - 97) % 256 = (i : Int) := by omega
  obtain ⟨C, hC⟩ : ∃ C, 97 + i = C := ⟨_, rfl⟩
  rw [hC] at hmod
  simp only [hC] at h00
  have hii : (i : Int) < (V.length : Int) := by omega
  clear hbs hC hb hV hva
  go_enter Tryd.func47, Tryd.ntmps47
  go_wp2_with fail
  refine HO.out.mono ?_
  rintro e w1 ⟨rfl, rfl⟩
  go_wp2_with fail
  refine HSH.out.mono ?_
  rintro e w1 ⟨rfl, rfl⟩
  go_wp2_with fail
  refine HBD.out.mono ?_
  rintro e w2 ⟨rfl, hc2⟩
  have HC2 := Lib.hid hc2
  clear hc2
  go_wp2_with fail
  go_ret2
  exact ⟨rfl, HC2.out⟩

set_option maxRecDepth 100000 in
set_option maxHeartbeats 1000000 in
theorem nobud_letter (V : List (List Nat)) (hV : WF V) (i : Nat) (hi : i < V.length) (hb : budV V i = false) (place : Int) (hpi : I64 place) (b off cap : Nat) (w : World) (hva : VAt w b off V) :
    Calls Tryd.prog 28 #[.slice (some ⟨b, off, none⟩) V.length cap, .string (str [i]), .int .i64 place] w fun e w' => e = .returned (.tuple #[.string ⟨#[]⟩, .int .i64 10]) ∧ Chg (fun _ => False) w w' := by
  have HR := Lib.hid (fun many => nobud_first V hV i hi hb many b off cap w hva)
  unfold I64 at hpi
  clear hV hi hb hva
  go_enter Tryd.func28, Tryd.ntmps28
  go_wp2_with fail
  refine (HR.out _).mono ?_
  rintro e w1 ⟨rfl, hc⟩
  have HC := Lib.hid hc
  clear hc
  go_wp2_with fail
  go_ret2
  exact ⟨rfl, HC.out⟩
end Go.Proofs.YtilacamhjibneaaDoor

/- The law VineBuds, walked: up to Endless. -/
namespace Go.Proofs.YtilacamhjibneaaDoor
open Go.RowKit

theorem budL_mem (V : List (List Nat)) (i : Nat) : ∀ k, i ∈ budL V k ↔ i < k ∧ budV V i = true
  | 0 => by simp [budL]
  | k + 1 => by
    unfold budL
    have ih := budL_mem V i k
    by_cases h : budV V k = true
    · rw [if_pos h, List.mem_append, ih]
      simp only [List.mem_singleton]
      constructor
      · rintro (⟨h1, h2⟩ | rfl)
        · exact ⟨by omega, h2⟩
        · exact ⟨by omega, h⟩
      · rintro ⟨h1, h2⟩
        by_cases hk : i = k
        · exact .inr hk
        · exact .inl ⟨by omega, h2⟩
    · rw [if_neg h, ih]
      constructor
      · rintro ⟨h1, h2⟩; exact ⟨by omega, h2⟩
      · rintro ⟨h1, h2⟩
        refine ⟨?_, h2⟩
        by_cases hk : i = k
        · subst hk; exact absurd h2 h
        · omega
theorem natI_len (l : List Nat) : (natI l).length = l.length := by simp [natI]
theorem natI_at (l : List Nat) {j : Nat} (h : j < (natI l).length) : (natI l)[j] = ((l[j]'(by simpa [natI] using h) : Nat) : Int) := by simp [natI]
/-- Is i among the first k. -/
def inF (l : List Nat) (i : Nat) : Nat → Bool
  | 0 => false
  | k + 1 => inF l i k || decide (at0 l k = i)
theorem inF_iff (l : List Nat) (i : Nat) : ∀ k, inF l i k = true ↔ ∃ j, j < k ∧ at0 l j = i
  | 0 => by simp [inF]
  | k + 1 => by
    unfold inF
    rw [Bool.or_eq_true, inF_iff l i k, decide_eq_true_iff]
    constructor
    · rintro (⟨j, h1, h2⟩ | h)
      · exact ⟨j, by omega, h2⟩
      · exact ⟨k, by omega, h⟩
    · rintro ⟨j, h1, h2⟩
      by_cases hj : j = k
      · subst hj; exact .inr h2
      · exact .inl ⟨j, by omega, h2⟩
theorem inF_bud (V : List (List Nat)) {i : Nat} (hi : i < V.length) : inF (budL V V.length) i (budL V V.length).length = budV V i := by
  rw [Bool.eq_iff_iff, inF_iff]
  constructor
  · rintro ⟨j, h1, h2⟩
    have : i ∈ budL V V.length := by
      rw [← h2, at0_lt_of h1]
      exact List.getElem_mem h1
    exact ((budL_mem V i V.length).1 this).2
  · intro h
    have := (budL_mem V i V.length).2 ⟨hi, h⟩
    obtain ⟨j, hj, e⟩ := List.getElem_of_mem this
    exact ⟨j, hj, by rw [at0_lt_of hj]; exact e⟩
theorem one_str (w : World) (i : Nat) (hi : i < 6) : (convert 52 9 (.slice (some ⟨w.heap.size, 0, none⟩) 1 1)).run Tryd.prog (w.alloc (.cells #[.int .u8 (97 + (i : Int))] 5)) = Result.ok (.string (str [i])) (w.alloc (.cells #[.int .u8 (97 + (i : Int))] 5)) := by
  have h := back_str (w := w.alloc (.cells #[.int .u8 (97 + (i : Int))] 5)) (g := w.heap.size) (i := 0) (len := 1) (cap := 1) (l := [i]) (fun j hj => by
    obtain rfl : j = 0 := by simp at hj; exact hj
    have := (Blk.new w #[.int .u8 (97 + (i : Int))] 5).cell_some (i := 0) rfl
    show (w.alloc (.cells #[.int .u8 (97 + (i : Int))] 5)).cell? ⟨w.heap.size, 0, none⟩ = _
    rw [this]
    rfl) (by simp) (by simp; omega)
  exact h

theorem ew_lt {V : List (List Nat)} (hV : WF V) {i : Nat} (hi : i < V.length) (hb : budV V i = true) (j : Nat) : ewF V i j < V.length := by
  have h := fed_bud hV hi hb j
  unfold ewF
  rw [at0_lt_of (show j < _ by omega)]
  have := bg_lt hV i j _ (List.getElem_mem (show j < (bg V i j).length by omega))
  omega
/-- Where the letters of shoot j begin. -/
def posF (V : List (List Nat)) (i j : Nat) : Nat := (grow1 V (ewL V i 0 j)).length
theorem posF_next (V : List (List Nat)) (i j : Nat) : posF V i (j + 1) = posF V i j + (part V (ewF V i j)).length := by
  unfold posF
  rw [ewL_app, Nat.zero_add]
  unfold grow1
  rw [List.flatMap_append, List.length_append]
  congr 1
  simp [ewL]
theorem posF_le {V : List (List Nat)} (hV : WF V) (i : Nat) : ∀ j, posF V i j ≤ 8 * j
  | 0 => by unfold posF ewL; simp [grow1]
  | j + 1 => by
    rw [posF_next]
    have := posF_le hV i j
    have := (hV.part_le (ewF V i j)).1
    omega
theorem letter_bud (V : List (List Nat)) (hV : WF V) (i : Nat) (hi : i < V.length) (hb : budV V i = true) (p : Nat) (hp : p < 100000) (b o0 cap : Nat) (w : World) (hv : VAt w b o0 V) :
    Calls Tryd.prog 28 #[.slice (some ⟨b, o0, none⟩) V.length cap, .string (str [i]), .int .i64 (p : Int)] w fun e w' => e = .returned (.tuple #[.string (str [ewF V i p]), .int .i64 0]) ∧ Chg (fun _ => False) w w' := by
  have h := letter_ok V hV i hi hb (p : Int) (by unfold I64; omega) b o0 cap w hv
  unfold letV at h
  rw [if_neg (by omega)] at h
  exact h
theorem at_bud (V : List (List Nat)) (hV : WF V) (i : Nat) (hi : i < V.length) (hb : budV V i = true) (y p : Nat) (hy : y < 256) (hp : p < 65536) (b o0 cap : Nat) (w : World) (hv : VAt w b o0 V) :
    Calls Tryd.prog 41 #[.slice (some ⟨b, o0, none⟩) V.length cap, .string (str [i]), .int .i64 (y : Int), .int .i64 (p : Int)] w fun e w' => (e = .returned (.tuple #[.string (str [ewF V i p]), .int .i64 0]) ∨ e = .returned (.tuple #[.string ⟨#[]⟩, .int .i64 6])) ∧ Chg (fun _ => False) w w' := by
  have h := at_ok V hV [i] (by intro c hc; simp at hc; omega) (by simp) (y : Int) (p : Int) (by unfold I64; omega) (by unfold I64; omega) b o0 cap w hv
  refine h.mono ?_
  rintro r w' ⟨rfl, hc⟩
  refine ⟨?_, hc⟩
  unfold atOk
  rw [if_neg (by omega), if_neg (by omega)]
  cases ha : atF V (y : Int).toNat [i] (p : Int).toNat with
  | none => exact .inr rfl
  | some c =>
    have := at_ew hV hi hb (by unfold M63; omega) ha
    rw [this]
    exact .inl rfl

theorem fac_take {V : List (List Nat)} (hV : WF V) {i : Nat} (hi : i < V.length) (hb : budV V i = true) {K : Nat} (h : 100000 ≤ (bg V i K).length) : (bg V i K).take 100000 = ewL V i 0 100000 := by
  have h1 := bg_ew hV hi hb K
  obtain ⟨L, hL⟩ : ∃ L, (bg V i K).length = L := ⟨_, rfl⟩
  rw [hL] at h h1
  rw [h1]
  have := ewL_cut V i 0 L 0 100000 (by omega)
  rwa [List.drop_zero] at this
theorem fac_bud (V : List (List Nat)) (hV : WF V) (i : Nat) (hi : i < V.length) (hb : budV V i = true) (n : Nat) (h1 : 1 ≤ n) (h10 : n ≤ 10) (b o0 cap : Nat) (w : World) (hv : VAt w b o0 V) :
    Calls Tryd.prog 17 #[.slice (some ⟨b, o0, none⟩) V.length cap, .string (str [i]), .int .i64 (n : Int)] w fun e w' => e = .returned (.tuple #[.int .i64 (facV (ewL V i 0 100000) n : Nat), .int .i64 0]) ∧ Chg (fun _ => False) w w' := by
  refine (factors_ok V hV i hi hb (fed_any hV hi hb _) n h1 h10 b o0 cap w hv).mono ?_
  rintro e w' ⟨⟨K, rfl, hK⟩, hc⟩
  exact ⟨by rw [fac_take hV hi hb hK], hc⟩
theorem fac_le (l : List Nat) (n : Nat) : facV l n ≤ l.length + 1 := by
  unfold facV
  obtain ⟨d1, d2⟩ := dis_inv _ (win l n (l.length + 1 - n)) rfl
  have := nodup_len (dis (win l n (l.length + 1 - n))) (win l n (l.length + 1 - n)) d1 (fun x hx => (d2 x).1 hx)
  have h2 : (win l n (l.length + 1 - n)).length = l.length + 1 - n := by rw [win_len]
  omega
theorem buds_nums {B M : Nat} (h1 : 1 ≤ B) (h2 : B ≤ M + 1) (h3 : B ≤ 200000) : wrap64 ((B : Int) - 1) = (B : Int) - 1 ∧ ¬ (B : Int) < 1 ∧ ¬ (M : Int) < (B : Int) - 1 := ⟨wrap_id (x := (B : Int) - 1) (by omega), by omega, by omega⟩

set_option maxRecDepth 100000 in
set_option maxHeartbeats 1000000 in
theorem vineBuds_main (V : List (List Nat)) (hV : WF V) (a y p l : Nat) (ha : a < 256) (hy : y < 256) (hp : p < 65536) (hl : l < 256) (b o0 cap : Nat) (w : World) (hv : VAt w b o0 V) (hs : SlS w (.slice (some ⟨b, o0, none⟩) V.length cap) (V.map str)) (hfew : fewV (V.map str) ⟨#[]⟩ = true) :
    Calls Tryd.prog 13 #[.slice (some ⟨b, o0, none⟩) V.length cap, .int .u8 (a : Int), .int .u8 (y : Int), .int .u16 (p : Int), .int .u8 (l : Int)] w fun e w' => e = .returned (.bool true) ∧ Chg (fun _ => False) w w' := by
  have hn6 := hV.le
  have hn1 := hV.pos
  have HF := Lib.hid (few_any (V.map str) ⟨#[]⟩ _ w hs (by show (0 : Nat) ≤ _; omega))
  rw [hfew] at HF
  have HO2 := Lib.hid (rvine_ok V hV b o0 cap w hv)
  obtain ⟨i, hi⟩ : ∃ i, a % V.length = i := ⟨_, rfl⟩
  have hil : i < V.length := by rw [← hi]; exact Nat.mod_lt _ (by omega)
  have hmI : (a : Int) % (V.length : Int) = (i : Int) := by rw [← hi]; rfl
  have HEN := Lib.hid (fun w hv => endless_ok V hV b o0 cap w hv)
  clear hs hfew hi
  have hnn : ¬ (V.length : Int) = 0 := by omega
  have hnn2 : ¬ V.length = 0 := by omega
  go_enter Tryd.func13, Tryd.ntmps13
  go_wp2_with fail
  refine HF.out.mono ?_
  rintro e w1 ⟨rfl, rfl⟩
  go_wp2_with fail
  refine HO2.out.mono ?_
  rintro e w2 ⟨rfl, rfl⟩
  have hcv := one_str w2 i (by omega)
  have HC3 := Lib.hid ((Chg.refl (fun _ => False) w2).alloc (.cells #[.int .u8 (97 + (i : Int))] 5))
  go_wp2_with fail
  refine (HEN.out _ (hv.chg HC3.out (fun x => x))).mono ?_
  rintro r w4 ⟨⟨vl, rfl, hsl⟩, hc4⟩
  have HC4 := Lib.hid (HC3.out.trans hc4 (fun _ x => x.elim))
  have HIB := Lib.hid (inF_bud V hil)
  have hLn := budL_len V V.length
  obtain ⟨L, hL⟩ : ∃ L, budL V V.length = L := ⟨_, rfl⟩
  rw [hL] at hsl HIB hLn
  obtain ⟨ao, g, off, c, rfl, hX, hI⟩ := hsl
  rw [natI_len]
  have HX := Lib.hid hX; have HI := Lib.hid hI
  obtain ⟨n, hn⟩ : ∃ n, L.length = n := ⟨_, rfl⟩
  rw [hn] at hLn HIB
  have HN := Lib.hid hn
  rw [hn]
  clear hL hn hX hI hc4 hcv
  go_wp2_with fail
  go_loopg [15, 16] n (fun gm iv jv wr => ∃ j : Nat, j ≤ n ∧ gm = n - j ∧ jv = .int .i64 (j : Int) ∧ iv = .bool (inF L i j) ∧ wr = w4)
  case atStart => exact ⟨0, by omega, by omega, rfl, rfl, rfl⟩
  case round =>
    obtain ⟨j, hj, rfl, rfl, rfl, rfl⟩ := hrel
    by_cases hjn : j < n
    · have d0 : decide (j < n) = true := by simpa using hjn
      have hjX : j < (natI L).length := by rw [natI_len, HN.out]; exact hjn
      obtain rfl := HX.out.resolve_left (fun e => by rw [e] at hjX; simp at hjX)
      have x1 := HI.out j hjX
      have hjL : j < L.length := by rw [HN.out]; exact hjn
      have HIN := Lib.hid (show inF L i (j + 1) = (inF L i j || decide (at0 L j = i)) from rfl)
      rw [natI_at, ← at0_lt_of hjL] at x1
      obtain ⟨X, hXx⟩ : ∃ X, at0 L j = X := ⟨_, rfl⟩
      rw [hXx] at x1 HIN
      cases hin : inF L i j
      · rw [hin] at HIN
        by_cases hXi : X = i
        · rw [decide_eq_true hXi] at HIN
          subst hXi
          go_wp2_with fail
          go_roundg (n - (j + 1))
          case measure => omega
          case rel => exact ⟨j + 1, by omega, rfl, by go_num, by rw [HIN.out]; rfl, rfl⟩
        · rw [decide_eq_false hXi] at HIN
          have hXi2 : ¬ (X : Int) = (i : Int) := by omega
          have hXi3 : ((X : Int) == (i : Int)) = false := by simpa using hXi2
          have hXi4 : decide (X = i) = false := by simpa using hXi
          go_wp2_with fail
          go_roundg (n - (j + 1))
          case measure => omega
          case rel => exact ⟨j + 1, by omega, rfl, by go_num, by rw [HIN.out]; rfl, rfl⟩
      · rw [hin, Bool.true_or] at HIN
        go_wp2_with fail
        go_roundg (n - (j + 1))
        case measure => omega
        case rel => exact ⟨j + 1, by omega, rfl, by go_num, by rw [HIN.out], rfl⟩
    · obtain rfl : j = n := by omega
      have d0 : decide (j < j) = false := by simp
      rw [HIB.out]
      cases hbud : budV V i
      · have HNL := Lib.hid (fun pl hpl w hv => nobud_letter V hV i hil hbud pl hpl b o0 cap w hv)
        go_wp2_with fail
        refine (HNL.out _ (by unfold I64; omega) _ ((hv.chg HC4.out (fun x => x)))).mono ?_
        rintro r w6 ⟨rfl, hc6⟩
        have HC6 := Lib.hid (HC4.out.trans hc6 (fun _ x => x.elim))
        clear hc6
        go_wp2_with fail
        refine (alive_any _).mono ?_
        rintro e w7 ⟨rfl, hc7⟩
        have HC7 := Lib.hid (HC6.out.trans hc7 (fun _ x => x.elim))
        clear hc7
        go_wp2_with fail
        go_ret
        exact ⟨rfl, HC7.out⟩
      · have HLE := Lib.hid (fun (pl : Nat) (hpl : pl < 100000) w hv => letter_bud V hV i hil hbud pl hpl b o0 cap w hv)
        have HAT := Lib.hid (fun w hv => at_bud V hV i hil hbud y p hy hp b o0 cap w hv)
        go_wp2_with fail
        refine (HLE.out p (by omega) _ ((hv.chg HC4.out (fun x => x)))).mono ?_
        rintro r w6 ⟨rfl, hc6⟩
        have HC6 := Lib.hid (HC4.out.trans hc6 (fun _ x => x.elim))
        clear hc6
        go_wp2_with fail
        refine (HAT.out _ ((hv.chg HC6.out (fun x => x)))).mono ?_
        rintro r w7 ⟨hr, hc7⟩
        have HC7 := Lib.hid (HC6.out.trans hc7 (fun _ x => x.elim))
        clear hc7
        rcases hr with rfl | rfl
        all_goals
          go_wp2_with fail
          go_loopg [21, 22] 40 (fun gm av jv wr => ∃ j : Nat, j ≤ 40 ∧ gm = 40 - j ∧ jv = .int .i64 (j : Int) ∧ av = .int .i64 (posF V i j : Nat) ∧ Chg (fun _ => False) w2 wr)
          case atStart => exact ⟨0, by omega, by omega, rfl, by rw [show posF V i 0 = 0 by have := posF_le hV i 0; omega]; rfl, HC7.out⟩
          case round =>
            obtain ⟨j, hj, rfl, rfl, rfl, hcr⟩ := hrel
            have HR := Lib.hid hcr
            clear hcr
            by_cases hj40 : j < 40
            · have d1 : decide (j < 40) = true := by simpa using hj40
              have HLJ := Lib.hid (HLE.out j (by omega))
              have hpl := posF_le hV i j
              have hpn := posF_next V i j
              have HPE := Lib.hid (fun k hk => part_ew hV hil hbud j k hk)
              have hdl := ew_lt hV hil hbud j
              obtain ⟨d, hd⟩ : ∃ d, ewF V i j = d := ⟨_, rfl⟩
              rw [hd] at HLJ hpn HPE hdl
              go_wp2_with fail
              refine (HLJ.out _ (hv.chg HR.out (fun x => x))).mono ?_
              rintro r w8 ⟨rfl, hc8⟩
              have HC8 := Lib.hid (HR.out.trans hc8 (fun _ x => x.elim))
              have hcell := (hv.chg HC8.out (fun x => x)) d hdl
              rw [← part_lt hdl] at hcell
              have h0s : ∀ bs, str [d] = bs → ∀ h : 0 < bs.size, (bs[0]'h).toNat = 97 + d := by
                rintro _ rfl h
                exact str_zero (p := [d]) (by simp) (by simp; omega) h
              have hs1 : (str [d]).size = 1 := str_size [d]
              obtain ⟨bs, hbs⟩ : ∃ bs, str [d] = bs := ⟨_, rfl⟩
              rw [hbs] at hs1 ⊢
              have h00 := h0s bs hbs
              clear h0s hc8
              have hmod : (((97 + d : Nat) : Int) - 97) % 256 = (d : Int) := by omega
              obtain ⟨C, hC⟩ : ∃ C, 97 + d = C := ⟨_, rfl⟩
              rw [hC] at hmod
              simp only [hC] at h00
              have hii : (d : Int) < (V.length : Int) := by omega
              have hC97 : ¬ C < 97 := by omega
              have hC97i : decide ((C : Int) < 97) = false := decide_eq_false (by omega)
              have hVd : decide (V.length ≤ d) = false := decide_eq_false (by omega)
              have hC97j : decide (C < 97) = false := decide_eq_false (by omega)
              have HPS := Lib.hid (str_size (part V d))
              have HP1 := Lib.hid (fun k hk => str_one (s := part V d) (k := k) hk)
              have hp8 := (hV.part_le d).1
              obtain ⟨S, hS⟩ : ∃ S, str (part V d) = S := ⟨_, rfl⟩
              rw [hS] at hcell HPS HP1
              obtain ⟨m, hm⟩ : ∃ m, (part V d).length = m := ⟨_, rfl⟩
              clear hbs hC hS
              rw [hm] at HPS hpn hp8
              have hSz := HPS.out
              obtain ⟨A, hA⟩ : ∃ A, posF V i j = A := ⟨_, rfl⟩
              have HPE2 := Lib.hid (show ∀ k, k < (part V d).length → ewF V i (A + k) = at0 (part V d) k by rw [← hA]; exact HPE.out)
              have HPN := Lib.hid hpn
              rw [hA] at hpl ⊢ HPN
              clear HPE hpn hA
              go_wp2_with fail
              clear hmod h00 hs1 hC97i hC97j hC97 hii hcell
              go_loopg [21, 26] m (fun gm av kv wr => ∃ k : Nat, k ≤ m ∧ gm = m - k ∧ kv = .int .i64 (k : Int) ∧ av = .int .i64 ((A + k : Nat) : Int) ∧ Chg (fun _ => False) w2 wr)
              case atStart => exact ⟨0, by omega, by omega, rfl, rfl, HC8.out⟩
              case round =>
                obtain ⟨k, hk, rfl, rfl, rfl, hcr⟩ := hrel
                have HRR := Lib.hid hcr
                clear hcr
                by_cases hkm : k < m
                · have d2 : decide (k < m) = true := by simpa using hkm
                  have hkp : k < (part V d).length := by omega
                  have HLK := Lib.hid (HLE.out (A + k) (by omega))
                  rw [HPE2.out k hkp, at0_lt_of hkp] at HLK
                  have hex := HP1.out k hkp
                  obtain ⟨x, hx⟩ : ∃ x, str [(part V d)[k]] = x := ⟨_, rfl⟩
                  rw [hx] at HLK hex
                  clear hx
                  go_wp2_with fail
                  refine (HLK.out _ (hv.chg HRR.out (fun x => x))).mono ?_
                  rintro r w9 ⟨rfl, hc9⟩
                  have HC9 := Lib.hid (HRR.out.trans hc9 (fun _ x => x.elim))
                  clear hc9
                  go_wp2_with fail
                  go_roundg (m - (k + 1))
                  case measure => omega
                  case rel => exact ⟨k + 1, by omega, rfl, by go_num, by go_num, HC9.out⟩
                · obtain rfl : k = m := by omega
                  have d2 : decide (k < k) = false := by simp
                  go_wp2_with fail
                  go_roundg (40 - (j + 1))
                  case measure => omega
                  case rel => exact ⟨j + 1, by omega, rfl, by go_num, by rw [HPN.out], HRR.out⟩
            · obtain rfl : j = 40 := by omega
              have HFA := Lib.hid (fun len h1 h10 w hv => fac_bud V hV i hil hbud len h1 h10 b o0 cap w hv)
              obtain ⟨m, hm⟩ : ∃ m, 1 + l % 9 = m := ⟨_, rfl⟩
              have hmI : 1 + (l : Int) % 9 = (m : Int) := by omega
              have hm1 : 1 ≤ m := by omega
              have hm10 : m ≤ 9 := by omega
              have HF1 := Lib.hid (fun w hv => HFA.out m hm1 (by omega) w hv)
              have HF2 := Lib.hid (fun w hv => HFA.out (m + 1) (by omega) (by omega) w hv)
              have hb1 := fac_pos (l := ewL V i 0 100000) (n := m) (by rw [ewL_len]; omega)
              have hb2 := fac_less (l := ewL V i 0 100000) (n := m) (by rw [ewL_len]; omega)
              have hb3 := fac_le (ewL V i 0 100000) m
              rw [ewL_len] at hb3
              obtain ⟨B, hB⟩ : ∃ B, facV (ewL V i 0 100000) m = B := ⟨_, rfl⟩
              obtain ⟨M, hM⟩ : ∃ M, facV (ewL V i 0 100000) (m + 1) = M := ⟨_, rfl⟩
              rw [hB] at hb1 hb2 hb3
              rw [hM] at hb2
              simp only [hB] at HF1
              simp only [hM, Int.natCast_add, Int.cast_ofNat_Int] at HF2
              have HNU := Lib.hid (buds_nums hb1 hb2 (by omega))
              clear hm hB hM hb1 hb2 hb3
              have d1 : decide ((40 : Int) < 40) = false := by decide
              go_wp2_with fail
              refine (HF1.out _ (hv.chg HR.out (fun x => x))).mono ?_
              rintro r w8 ⟨rfl, hc8⟩
              have HC8 := Lib.hid (HR.out.trans hc8 (fun _ x => x.elim))
              clear hc8
              go_wp2_with fail
              refine (HF2.out _ (hv.chg HC8.out (fun x => x))).mono ?_
              rintro r w9 ⟨rfl, hc9⟩
              have HC9 := Lib.hid (HC8.out.trans hc9 (fun _ x => x.elim))
              obtain ⟨n1, n2, n3⟩ := HNU.out
              clear hc9
              go_wp2_with fail
              refine (alive_any _).mono ?_
              rintro e w10 ⟨rfl, hc10⟩
              have HC10 := Lib.hid (HC9.out.trans hc10 (fun _ x => x.elim))
              clear hc10
              go_wp2_with fail
              go_ret
              exact ⟨rfl, HC10.out⟩
end Go.Proofs.YtilacamhjibneaaDoor

/- The law VineBuds, at any input. No condition but the arguments' ranges. -/
namespace Go.Proofs.YtilacamhjibneaaDoor
open Go.RowKit

theorem u8_of {n : Int} (h : (Lit.int .u8 n).wf = true) : ∃ k : Nat, n = (k : Int) ∧ k < 256 := by
  have : 0 ≤ n ∧ n ≤ 255 := by simpa [Lit.wf, IntKind.min, IntKind.max, IntKind.signed, IntKind.bits] using h
  exact ⟨n.toNat, by omega, by omega⟩
theorem u16_of {n : Int} (h : (Lit.int .u16 n).wf = true) : ∃ k : Nat, n = (k : Int) ∧ k < 65536 := by
  have : 0 ≤ n ∧ n ≤ 65535 := by simpa [Lit.wf, IntKind.min, IntKind.max, IntKind.signed, IntKind.bits] using h
  exact ⟨n.toNat, by omega, by omega⟩

set_option maxRecDepth 100000 in
set_option maxHeartbeats 1000000 in
theorem vineBuds_law (P : List ByteArray) (a y p l : Int) (ha : (Lit.int .u8 a).wf = true) (hy : (Lit.int .u8 y).wf = true) (hp : (Lit.int .u16 p).wf = true) (hl : (Lit.int .u8 l).wf = true) (v : Value) (w : World) (hv : SlS w v P) :
    Calls Tryd.prog 13 #[v, .int .u8 a, .int .u8 y, .int .u16 p, .int .u8 l] w fun e w' => e = .returned (.bool true) ∧ Chg (fun _ => False) w w' := by
  obtain ⟨a, rfl, ha'⟩ := u8_of ha
  obtain ⟨y, rfl, hy'⟩ := u8_of hy
  obtain ⟨p, rfl, hp'⟩ := u16_of hp
  obtain ⟨l, rfl, hl'⟩ := u8_of hl
  clear ha hy hp hl
  have HF := Lib.hid (few_any P ⟨#[]⟩ v w hv (by show (0 : Nat) ≤ _; unfold maxLen; omega))
  by_cases hfew : fewV P ⟨#[]⟩ = true
  · obtain ⟨hn, hz, _⟩ := few_small hfew
    by_cases he : errV P = 0
    · have hs : errS P ⟨#[]⟩ = 0 := by
        unfold errS
        rw [if_neg (by rw [he]; simp), if_pos (by unfold okShoot okS; rfl)]
      obtain ⟨V, t, rfl, _, hV, _, _⟩ := shot_of hs
      obtain ⟨ao, b, off, cap, rfl, hst, hao⟩ := hv.form
      have hpos := hV.pos
      obtain rfl := hao.resolve_left (fun e => by have h0 := congrArg List.length e; rw [List.length_map, List.length_nil] at h0; omega)
      have hva := vat_of hst
      rw [List.length_map] at hv ⊢
      exact vineBuds_main V hV a y p l ha' hy' hp' hl' b off cap w hva hv hfew
    · rw [hfew] at HF
      obtain ⟨ao, b, off, cap, rfl, hst, hao⟩ := hv.form
      have HR := Lib.hid (rvine_any P ao cap b off w hst hao hn hz)
      obtain ⟨E, hE⟩ : ∃ E, errV P = E := ⟨_, rfl⟩
      rw [hE] at HR
      have dn : (((E : Nat) : Int) != 0) = true := by simpa [hE] using he
      clear hE he hst hao hv hfew hn hz ha' hy' hp' hl'
      go_enter Tryd.func13, Tryd.ntmps13
      go_wp2_with fail
      refine HF.out.mono ?_
      rintro e w1 ⟨rfl, rfl⟩
      go_wp2_with fail
      refine HR.out.mono ?_
      rintro e w1 ⟨rfl, rfl⟩
      go_wp2_with fail
      refine (alive_any w1).mono ?_
      rintro e w2 ⟨rfl, hc2⟩
      have HC2 := Lib.hid hc2
      clear hc2
      go_wp2_with fail
      go_ret
      exact ⟨rfl, HC2.out⟩
  · have hff : fewV P ⟨#[]⟩ = false := by simpa using hfew
    rw [hff] at HF
    clear hfew hff hv ha' hy' hp' hl'
    go_enter Tryd.func13, Tryd.ntmps13
    go_wp2_with fail
    refine HF.out.mono ?_
    rintro e w1 ⟨rfl, rfl⟩
    go_wp2_with fail
    refine (alive_any w1).mono ?_
    rintro e w2 ⟨rfl, hc2⟩
    have HC2 := Lib.hid hc2
    clear hc2
    go_wp2_with fail
    go_ret
    exact ⟨rfl, HC2.out⟩
end Go.Proofs.YtilacamhjibneaaDoor
