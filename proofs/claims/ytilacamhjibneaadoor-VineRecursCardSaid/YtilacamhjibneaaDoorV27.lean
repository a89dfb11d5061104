/- Factors, walked. Its conditions are its premises. -/
import Derived.Test.YtilacamhjibneaaDoorV26
import Derived.Maps.Own
import Derived.Maps.Views
import Derived.Maps.OwnSet
set_option linter.unusedVariables false
namespace Go.Proofs.YtilacamhjibneaaDoor
open Go.RowKit Go.Maps

theorem law9 : Keyed Tryd.prog 9 := string_keyed Tryd.underlying9
def kl (l : List Nat) : Lit := .string (str l).data.toList
theorem keyS {l : List Nat} (hl : l.length ≤ 1000) : keyOf Tryd.prog 9 (.string (str l)) = some (kl l) := WideMaps.keyOf_string_mk Tryd.underlying9 (by rw [str_size]; unfold maxLen; omega)
theorem chr_inj {c d : Nat} (hc : c < 100) (hd : d < 100) (h : chr c = chr d) : c = d := by
  have := congrArg UInt8.toNat h
  unfold chr at this
  simp at this
  omega
theorem kl_inj {l m : List Nat} (hl : ∀ c ∈ l, c < 100) (hm : ∀ c ∈ m, c < 100) (h : kl l = kl m) : l = m := by
  unfold kl str at h
  injection h with h
  simp only at h
  induction l generalizing m with
  | nil => cases m with
    | nil => rfl
    | cons d m => simp at h
  | cons c l ih => cases m with
    | nil => simp at h
    | cons d m =>
      simp only [List.map_cons, List.cons.injEq] at h
      rw [chr_inj (hl c (by simp)) (hm d (by simp)) h.1, ih (fun x hx => hl x (by simp [hx])) (fun x hx => hm x (by simp [hx])) h.2]
/-- Those that are different, in the order in which they first come. -/
def dis (S : List (List Nat)) : List (List Nat) := S.foldl (fun D l => if l ∈ D then D else D ++ [l]) []
theorem dis_snoc (S : List (List Nat)) (l : List Nat) : dis (S ++ [l]) = if l ∈ dis S then dis S else dis S ++ [l] := by
  unfold dis
  rw [List.foldl_append]
  rfl
def setW (S : List (List Nat)) : DataW Unit := S.foldl (fun d l => d.put (kl l) (.lit (.bool true))) (.map [])
theorem setW_snoc (S : List (List Nat)) (l : List Nat) : setW (S ++ [l]) = (setW S).put (kl l) (.lit (.bool true)) := by
  unfold setW
  rw [List.foldl_append]
  rfl
def Lets (S : List (List Nat)) : Prop := ∀ l ∈ S, ∀ c ∈ l, c < 100
theorem setW_inv : ∀ (n : Nat) (S : List (List Nat)), S.length = n → Lets S → Tidy (setW S) ∧ Maps.size (setW S) = (dis S).length ∧ (∀ l, (∀ c ∈ l, c < 100) → has (setW S) (kl l) = decide (l ∈ dis S)) := by
  intro n
  induction n with
  | zero =>
    intro S hS _
    obtain rfl := List.length_eq_zero_iff.1 hS
    exact ⟨tidy_empty, rfl, fun l _ => rfl⟩
  | succ n ih =>
    intro S hS hL
    obtain ⟨T, x, rfl⟩ : ∃ T x, S = T ++ [x] := ⟨S.dropLast, S.getLast (by intro h; simp [h] at hS), (List.dropLast_concat_getLast _).symm⟩
    have hx := hL x (by simp)
    obtain ⟨h1, h2, h3⟩ := ih T (by simpa using hS) (fun l hl => hL l (by simp [hl]))
    rw [setW_snoc, dis_snoc]
    refine ⟨h1.put (by unfold kl; trivial) _, ?_, fun l hl => ?_⟩
    · rw [size_put h1, h3 x hx, h2]
      by_cases h : x ∈ dis T
      · rw [if_pos (by simpa using h), if_pos h]
      · rw [if_neg (by simpa using h), if_neg h, List.length_append]
        rfl
    · by_cases hlx : l = x
      · subst hlx
        rw [has_put_same h1.isMap (by unfold kl; trivial)]
        by_cases h : l ∈ dis T
        · rw [if_pos h]; simp [h]
        · rw [if_neg h]; simp
      · rw [has_put_other (fun e => hlx (kl_inj hl hx e)), h3 l hl]
        by_cases h : x ∈ dis T
        · rw [if_pos h]
        · rw [if_neg h]; simp [hlx]

/-- Block b is a map in which the strings S have been seen. -/
def SeenS (w : World) (b : Nat) (S : List (List Nat)) : Prop := w.ownsMap (H := Unit) Tryd.prog 9 (plainElem Tryd.prog 4) b S.length (setW S)
theorem SeenS.lt {w : World} {b : Nat} {S : List (List Nat)} (h : SeenS w b S) : b < w.heap.size := World.ownsMap.lt h
theorem SeenS.put {w : World} {b : Nat} {S : List (List Nat)} (h : SeenS w b S) (hS : S.length < 1000000) {l : List Nat} (hl : l.length ≤ 1000) :
    ∃ w', (Instr.mapUpdate 57 (.map (some b)) (.string (str l)) (.bool true)).run Tryd.prog w = .ok () w' ∧ SeenS w' b (S ++ [l]) ∧ Chg (fun k => k = b) w w' := by
  obtain ⟨w', hrun, ho, hg⟩ := World.ownsMap.update h law9 Tryd.underlying57 (by unfold maxLen; omega) (keyS hl) (plainElem_bool (H := Unit) Tryd.underlying4 true)
  refine ⟨w', hrun, ?_, hg.os, hg.tape, hg.output, hg.size, fun k hk hn => hg.block k hk (by intro e; injection e with e; exact hn e)⟩
  unfold SeenS
  rw [setW_snoc]
  simpa using ho
theorem wpList_seenS {w : World} {ops : Array Oper} {rest : List Oper} {o : Oper} {a : Act} {Q : Exit → Act → World → Prop} (hg : o.guard = none) (m x v : Operand) (hop : o.op = Op.mapUpdate 57 m x v ∨ o.op = Op.insert 57 m x v)
    (b : Nat) (S : List (List Nat)) (hm : a.eval m = .map (some b)) (h : SeenS w b S) (hS : S.length < 1000000) (l : List Nat) (hl : l.length ≤ 1000) (hx : a.eval x = .string (str l)) (hv : a.eval v = .bool true)
    (hK : ∀ w', SeenS w' b (S ++ [l]) → Chg (fun k => k = b) w w' → wpList Tryd.prog ops Q rest (a.put o.dst undef) w') : wpList Tryd.prog ops Q (o :: rest) a w := by
  refine wpList_plain hg fun K' hK' => ?_
  obtain ⟨w', hrun, r1, r2⟩ := h.put hS hl
  unfold Oper.wp
  rcases hop with hop | hop <;>
  · simp [execOp, hop, hm, hx, hv, hrun, Result.andThen]
    exact hK' _ _ (hK w' r1 r2)

/-- The strings of a length in l, the first n of them. -/
def win (l : List Nat) (len n : Nat) : List (List Nat) := (List.range n).map fun i => (l.drop i).take len
theorem win_next (l : List Nat) (len n : Nat) : win l len (n + 1) = win l len n ++ [(l.drop n).take len] := by simp [win, List.range_succ]
theorem win_len (l : List Nat) (len n : Nat) : (win l len n).length = n := by simp [win]
theorem win_lets {l : List Nat} (hl : ∀ c ∈ l, c < 100) (len n : Nat) : Lets (win l len n) := fun x hx c hc => by
  unfold win at hx
  obtain ⟨i, _, rfl⟩ := List.mem_map.1 hx
  exact hl c (List.mem_of_mem_drop (List.mem_of_mem_take hc))
theorem back_str {w : World} {g i len cap : Nat} {l : List Nat} (h : U8At w g 0 l) (hi : i + len ≤ l.length) (hc : ∀ c ∈ l, c < 100) : (convert 52 9 (.slice (some ⟨g, i, none⟩) len cap)).run Tryd.prog w = .ok (.string (str ((l.drop i).take len))) w := by
  have hlen : (((l.drop i).take len).map chr).length = len := by simp; omega
  have := run_convert_bytes_back (P := Tryd.prog) w 52 9 5 ⟨g, i, none⟩ cap (((l.drop i).take len).map chr) Tryd.underlying52 Tryd.underlying5 Tryd.underlying9 (fun j hj => by
    rw [hlen] at hj
    have h1 := h (i + j) (by omega)
    rw [add_plain]
    rw [Nat.zero_add] at h1
    rw [h1]
    have := hc _ (List.getElem_mem (show i + j < l.length by omega))
    simp [chr]
    omega)
  rw [hlen] at this
  exact this
end Go.Proofs.YtilacamhjibneaaDoor
