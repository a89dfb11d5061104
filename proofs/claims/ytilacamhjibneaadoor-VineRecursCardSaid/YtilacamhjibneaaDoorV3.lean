/- Letters as numbers; the tallies: plus, counts, sum. Their conditions are their premises. -/
import Derived.Test.YtilacamhjibneaaDoorV2
set_option linter.unusedVariables false
namespace Go.Proofs.YtilacamhjibneaaDoor
open Go.RowKit

def chr (c : Nat) : UInt8 := UInt8.ofNat (97 + c)
def str (l : List Nat) : ByteArray := ⟨(l.map chr).toArray⟩
theorem str_size (l : List Nat) : (str l).size = l.length := by
  show (l.map chr).toArray.size = _
  simp
theorem str_byte {l : List Nat} {i : Nat} (h : i < l.length) (hc : l[i] < 100) : byteAt (str l) i = 97 + l[i] := by
  unfold byteAt str
  rw [List.getElem?_eq_getElem (by simpa using h)]
  simp [chr]
  omega
theorem index_chr {l : List Nat} {i : Nat} (h : i < l.length) (hc : l[i] < 100) (w : World) : (Instr.index 9 (.string (str l)) (.int .i64 (i : Int))).run Tryd.prog w = .ok (.int .u8 ((97 + l[i] : Nat) : Int)) w := by
  rw [index_byte (str l) (by rw [str_size]; exact h) w, str_byte h hc]
theorem u8_chr (c : Nat) (hc : c < 100) : IntKind.u8.wrap (((97 + c : Nat) : Int) - 97) = (c : Int) := by
  rw [u8_sub (by omega) (by omega)]
  omega

/-- What a vine is: 1 to 6 parts of at most 8 letters. -/
structure WF (V : List (List Nat)) : Prop where
  pos : 1 ≤ V.length
  le : V.length ≤ 6
  small : ∀ p ∈ V, p.length ≤ 8 ∧ ∀ c ∈ p, c < V.length
def lets (s : ByteArray) : List Nat := s.data.toList.map fun c => c.toNat - 97
theorem lets_len (s : ByteArray) : (lets s).length = s.size := by simp [lets]
theorem lets_at {s : ByteArray} {i : Nat} (h : i < (lets s).length) : (lets s)[i] = byteAt s i - 97 := by
  have h' : i < s.data.toList.length := by simpa [lets] using h
  unfold byteAt
  rw [List.getElem?_eq_getElem h']
  simp [lets]
theorem okS_at {n : Nat} {s : ByteArray} (h : okS n s = true) {i : Nat} (hi : i < s.size) : 97 ≤ byteAt s i ∧ byteAt s i < 97 + n := by
  have := okT_at h i hi
  unfold okC at this
  simpa using this
theorem lets_lt {n : Nat} {s : ByteArray} (h : okS n s = true) : ∀ c ∈ lets s, c < n := by
  intro c hc
  obtain ⟨i, hi, rfl⟩ := List.getElem_of_mem hc
  have := okS_at h (i := i) (by rw [← lets_len]; exact hi)
  rw [lets_at hi]
  omega
theorem str_lets {n : Nat} {s : ByteArray} (hn : n ≤ 100) (h : okS n s = true) : str (lets s) = s := by
  apply ByteArray.ext
  apply Array.ext'
  show (List.map chr (lets s)) = s.data.toList
  apply List.ext_getElem?
  intro i
  by_cases hi : i < s.size
  · have h' : i < s.data.toList.length := by simpa using hi
    have hb := okS_at h hi
    have hbb : byteAt s i = (s.data.toList[i]).toNat := by unfold byteAt; rw [List.getElem?_eq_getElem h']; rfl
    rw [List.getElem?_map, List.getElem?_eq_getElem (by rw [lets_len]; exact hi), List.getElem?_eq_getElem h', Option.map_some, lets_at (by rw [lets_len]; exact hi)]
    congr 1
    unfold chr
    rw [show 97 + (byteAt s i - 97) = (s.data.toList[i]).toNat by omega]
    simp
  · rw [List.getElem?_eq_none (by simp [lets_len]; omega), List.getElem?_eq_none (by simp; omega)]

theorem parts_of {P : List ByteArray} (h : errV P = 0) : ∃ V, P = V.map str ∧ WF V := by
  unfold errV at h
  have h1 : ¬ (P.length < 1 ∨ 6 < P.length) := by
    intro hc; rw [if_pos hc] at h; omega
  rw [if_neg h1] at h
  have h2 : prT P P.length = true := by
    cases hp : prT P P.length with
    | true => rfl
    | false => rw [hp] at h; simp at h
  have hall : ∀ p ∈ P, p.size ≤ 8 ∧ okS P.length p = true := by
    intro p hp
    obtain ⟨i, hi, rfl⟩ := List.getElem_of_mem hp
    have := prT_at h2 i hi
    rw [List.getElem?_eq_getElem hi] at this
    unfold okPart at this
    simpa using this
  refine ⟨P.map lets, ?_, ?_, ?_, ?_⟩
  · rw [List.map_map]
    conv => lhs; rw [← List.map_id P]
    refine List.map_congr_left (fun p hp => ?_)
    exact (str_lets (by omega) (hall p hp).2).symm
  · rw [List.length_map]; omega
  · rw [List.length_map]; omega
  · intro p hp
    obtain ⟨q, hq, rfl⟩ := List.mem_map.1 hp
    rw [lets_len, List.length_map]
    exact ⟨(hall q hq).1, lets_lt (hall q hq).2⟩
theorem shot_of {P : List ByteArray} {s : ByteArray} (h : errS P s = 0) : ∃ V t, P = V.map str ∧ s = str t ∧ WF V ∧ t.length ≤ 30 ∧ ∀ c ∈ t, c < V.length := by
  unfold errS at h
  have he : errV P = 0 := by
    by_cases hc : errV P ≠ 0
    · rw [if_pos hc] at h; exact h
    · simpa using hc
  rw [if_neg (by simpa using he)] at h
  have h2 : okShoot P.length s = true := by
    cases hp : okShoot P.length s with
    | true => rfl
    | false => rw [hp] at h; simp at h
  obtain ⟨V, rfl, hV⟩ := parts_of he
  unfold okShoot at h2
  rw [List.length_map, Bool.and_eq_true, decide_eq_true_eq] at h2
  have := hV.le
  exact ⟨V, lets s, rfl, (str_lets (by omega) h2.2).symm, hV, by rw [lets_len]; exact h2.1, lets_lt h2.2⟩

def at0 (l : List Nat) (i : Nat) : Nat := l[i]?.getD 0
def nv (l : List Nat) : List Value := l.map fun (x : Nat) => .int .i64 (x : Int)
theorem at0_lt_of {l : List Nat} {i : Nat} (h : i < l.length) : at0 l i = l[i] := by
  unfold at0
  rw [List.getElem?_eq_getElem h]
  rfl
theorem at0_le {N : List Nat} {m : Nat} (h : ∀ y ∈ N, y ≤ m) (i : Nat) : at0 N i ≤ m := by
  unfold at0
  cases hh : N[i]? with
  | none => simp
  | some x => exact h x (List.mem_of_getElem? hh)
theorem nv_at {N : List Nat} {i : Nat} (h : i < N.length) : (nv N)[i]? = some (.int .i64 (at0 N i : Nat)) := by
  unfold nv at0
  rw [List.getElem?_map, List.getElem?_eq_getElem h]
  rfl
theorem nv_set (N : List Nat) (i v : Nat) : nv (N.set i v) = (nv N).set i (.int .i64 (v : Int)) := by
  unfold nv
  rw [List.map_set]
theorem at0_set (N : List Nat) (i v : Nat) (j : Nat) (h : i < N.length) : at0 (N.set i v) j = if i = j then v else at0 N j := by
  unfold at0
  by_cases hij : i = j
  · subst hij
    rw [if_pos rfl, List.getElem?_set_self h]
    rfl
  · rw [if_neg hij, List.getElem?_set_ne hij]
theorem set_le {N : List Nat} {i v m : Nat} (h : ∀ y ∈ N, y ≤ m) (hv : v ≤ m) : ∀ y ∈ N.set i v, y ≤ m := by
  intro y hy
  rcases List.mem_or_eq_of_mem_set hy with h1 | h1
  · exact h y h1
  · omega
def NatsAt (w : World) (b off : Nat) (l : List Nat) : Prop := ∀ k (h : k < l.length), w.cell? ⟨b, off + k, none⟩ = some (.int .i64 (l[k] : Nat))
theorem NatsAt.chg {S : Nat → Prop} {w w' : World} {b off : Nat} {l : List Nat} (h : NatsAt w b off l) (hc : Chg S w w') (hn : ¬ S b) : NatsAt w' b off l := fun k hk => hc.cell_some (h k hk) hn
theorem nats_at {w : World} {b off : Nat} {l : List Nat} (h : NatsAt w b off l) {i : Nat} (hi : i < l.length) : w.cell? ⟨b, off + i, none⟩ = some (.int .i64 (at0 l i : Nat)) := by
  have := h i hi
  rw [at0_lt_of hi]
  exact this
theorem nats_of_blk {w : World} {B e : Nat} {N : List Nat} (h : Blk w B e (nv N)) : NatsAt w B 0 N := fun k hk => by
  rw [Nat.zero_add]
  refine h.cell_some ?_
  unfold nv
  rw [List.getElem?_map, List.getElem?_eq_getElem hk]
  rfl
theorem madeCells_one (v : Value) (n : Nat) : madeCells #[v] n = Array.replicate n v := by
  apply Array.ext
  · simp [madeCells]
  · intro i h1 h2
    simp [madeCells, Nat.mod_one]

/-- The cells of a vine. -/
def VAt (w : World) (b off : Nat) (V : List (List Nat)) : Prop := ∀ k (h : k < V.length), w.cell? ⟨b, off + k, none⟩ = some (.string (str V[k]))
theorem VAt.chg {S : Nat → Prop} {w w' : World} {b off : Nat} {V : List (List Nat)} (h : VAt w b off V) (hc : Chg S w w') (hn : ¬ S b) : VAt w' b off V := fun k hk => hc.cell_some (h k hk) hn
theorem vat_of {w : World} {b off : Nat} {V : List (List Nat)} (h : StrsAt w b off (V.map str)) : VAt w b off V := fun k hk => by
  have := h k (by simpa using hk)
  simpa using this
theorem vat_lt {w : World} {b off : Nat} {V : List (List Nat)} (h : VAt w b off V) (hV : 1 ≤ V.length) : b < w.heap.size := World.cell_lt (h 0 (by omega))

/-- The bound of a tally. -/
def lim : Nat := 1152921504606846977
theorem plus_any (a b : Nat) (ha : a ≤ lim) (hb : b ≤ lim) (w : World) : Calls Tryd.prog 83 #[.int .i64 (a : Int), .int .i64 (b : Int)] w fun e w' => e = .returned (.int .i64 ((min (a + b) lim : Nat) : Int)) ∧ w' = w := by
  have h1 : wrap64 ((a : Int) + (b : Int)) = (a : Int) + (b : Int) := by unfold lim at ha hb; unfold wrap64; omega
  go_enter Tryd.func83, Tryd.ntmps83
  go_wp2_with fail
  all_goals
    go_ret
    exact ⟨ret_int (by unfold lim; omega), rfl⟩
end Go.Proofs.YtilacamhjibneaaDoor
