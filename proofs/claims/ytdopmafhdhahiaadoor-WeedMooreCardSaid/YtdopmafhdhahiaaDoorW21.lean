/- The reference's search for an orphan: what it computes, in plain Lean; its memory. No condition. -/
import Derived.Test.YtdopmafhdhahiaaDoorW20
set_option linter.unusedVariables false
namespace Go
section
variable {P : Program}
theorem wpList_append_que {w : World} {ops : Array Oper} {rest : List Oper} {o : Oper} {a : Act} {Q : Exit → Act → World → Prop} (hgd : o.guard = none) (s x : Operand) (t : TypeId)
    (ho : o.op = .call { callee := .builtin .append, args := #[s, x], argTypes := #[t, t] })
    (e : TypeId) (i : TypeInfo) (z : Value) (size bytes : Nat) (ht : P.underlying t = some (.slice e)) (hi : P.info? e = some i) (hz : i.zero = some z)
    (hsize : i.size = size) (hby : i.bytes = bytes) (hzs : z.cells.size = size) (hsz : 0 < size)
    (g off cap n : Nat) (xs : List Value) (hs : a.eval s = .slice (some ⟨g, off, none⟩) n cap) (hq : QueB w size g off cap n xs)
    (ad : Addr) (m c : Nat) (news : List Value) (hx : a.eval x = .slice (some ad) m c) (hl : news.length = m * size) (hm : 0 < m) (hnews : ∀ j u, news[j]? = some u → w.cell? (ad.add j) = some u) (h1 : ∀ u ∈ news, u.oneCell' = true)
    (h63 : n + m ≤ maxLen) (hbytes : (n + m) * bytes ≤ 140737488355328)
    (h : ∀ g' o' c' w', QueB w' size g' o' c' (n + m) (xs ++ news) → (g' = g ∨ w.heap.size ≤ g') → Chg (fun k => k = g) w w' → wpList P ops Q rest (a.put o.dst (.slice (some ⟨g', o', none⟩) (n + m) c')) w') : wpList P ops Q (o :: rest) a w := by
  refine wpList_step fun K hK => ?_
  rw [if_pos (by simp [Region.wanted, hgd])]
  obtain ⟨g', o', c', w', hrun, r1, r2, r3⟩ := run_append_que (P := P) w t o.type e i z size bytes ht hi hz hsize hby hzs hsz g off cap n xs hq ad m c news hl hm hnews h1 h63 hbytes
  unfold Oper.wp
  simp [execOp, ho, resolve, invoke, builtin, hs, hx, hrun, Result.andThen]
  exact hK _ _ (h g' o' c' w' r1 r2 r3)
end
end Go
namespace Go.Proofs.YtdopmafhdhahiaaDoor
open Go.RowKit Go.Maps

def vec (e : Nat) : List Nat := [e % 2, e / 2 % 2, e / 4 % 2, e / 8 % 2]
theorem vec_le (e : Nat) : ∀ y ∈ vec e, y ≤ 1 := by
  intro y hy
  simp [vec] at hy
  omega
theorem vec_len (e : Nat) : (vec e).length = 4 := rfl

def allB (n : Nat) (f : Nat → Bool) : Bool := (List.range n).all f
theorem allB_at {n : Nat} {f : Nat → Bool} (h : allB n f = true) {i : Nat} (hi : i < n) : f i = true := by
  unfold allB at h
  rw [List.all_eq_true] at h
  exact h i (List.mem_range.2 hi)

theorem vec_next_all : (allB 256 fun u => allB 16 fun e => allB 2 fun x => smallV (waysV u x (vec e)) == vec (nextV u e x)) = true := by decide +kernel
theorem vec_next {u e x : Nat} (hu : u < 256) (he : e < 16) (hx : x < 2) : smallV (waysV u x (vec e)) = vec (nextV u e x) := by
  have := allB_at (allB_at (allB_at vec_next_all hu) he) hx
  simpa using this

def sameU (a e : Nat) : Nat → Bool
  | 0 => true
  | p + 1 => sameU a e p && (at0 (vec a) p == at0 (vec e) p)
theorem same_all : (allB 16 fun a => allB 16 fun e => sameU a e 4 == decide (a = e)) = true := by decide +kernel
theorem same_four {a e : Nat} (ha : a < 16) (he : e < 16) : sameU a e 4 = decide (a = e) := by
  have := allB_at (allB_at same_all ha) he
  simpa using this
theorem sum_all : (allB 16 fun e => decide (sumV (vec e) = 0) == decide (e = 0)) = true := by decide +kernel
theorem sum_vec {e : Nat} (he : e < 16) : sumV (vec e) = 0 ↔ e = 0 := by
  have := allB_at sum_all he
  simpa using this
theorem sumV_small : (allB 16 fun e => decide (sumV (vec e) ≤ 4)) = true := by decide +kernel

/-- The sets with each plot more: an orphan, or more of the sets found. -/
def rinN (u : Nat) (p : Fd) (fs : List Fd) : Nat → List Nat ⊕ List Fd
  | 0 => .inr fs
  | x + 1 => match rinN u p fs x with
    | .inl l => .inl l
    | .inr gs => if nextV u p.1 x = 0 then .inl (p.2 ++ [x]) else .inr (pushR u p gs x)
def rorphF (u : Nat) : Nat → Nat → List Fd → Option (List Nat)
  | 0, _, _ => none
  | f + 1, i, fs => match fs[i]? with
    | none => none
    | some p => match rinN u p fs 2 with
      | .inl l => some l
      | .inr gs => rorphF u f (i + 1) gs
def rorphV (u : Nat) : Option (List Nat) := rorphF u 17 0 [(15, [])]

theorem rinN_hit {u : Nat} {p : Fd} {fs gs : List Fd} {x : Nat} (h : rinN u p fs x = .inr gs) (hz : nextV u p.1 x = 0) : rinN u p fs (x + 1) = .inl (p.2 ++ [x]) := by
  rw [rinN, h]
  simp only [if_pos hz]
theorem rinN_on {u : Nat} {p : Fd} {fs gs : List Fd} {x : Nat} (h : rinN u p fs x = .inr gs) (hz : nextV u p.1 x ≠ 0) : rinN u p fs (x + 1) = .inr (pushR u p gs x) := by
  rw [rinN, h]
  simp only [if_neg hz]
theorem pushR_old {u : Nat} {p : Fd} {fs : List Fd} {x : Nat} (h : nextV u p.1 x ∈ fs.map (·.1)) : pushR u p fs x = fs := by unfold pushR; rw [if_pos h]
theorem pushR_new {u : Nat} {p : Fd} {fs : List Fd} {x : Nat} (h : nextV u p.1 x ∉ fs.map (·.1)) : pushR u p fs x = fs ++ [(nextV u p.1 x, p.2 ++ [x])] := by unfold pushR; rw [if_neg h]

def wordV (fs : List Fd) : List Value := fs.map fun p => .string (txt p.2)

/-- The reference's lists in memory: a set is four cells of its own. -/
structure RMem (w0 w : World) (sb so sc wb wo wc : Nat) (fs : List Fd) (vs : List Value) : Prop where
  fnd : Fnd fs
  sets : QueB w 1 sb so sc fs.length vs
  words : QueB w 1 wb wo wc fs.length (wordV fs)
  each : ∀ k (h : k < fs.length), ∃ g c, vs[k]? = some (.slice (some ⟨g, 0, none⟩) 4 c) ∧ w0.heap.size ≤ g ∧ g ≠ sb ∧ g ≠ wb ∧ g < w.heap.size ∧ NatsAt w g 0 (vec fs[k].1)
  apart : sb ≠ wb
  olds : w0.heap.size ≤ sb
  oldw : w0.heap.size ≤ wb
  chg : Chg (fun _ => False) w0 w

theorem RMem.kept {w0 w w' : World} {sb so sc wb wo wc : Nat} {fs : List Fd} {vs : List Value} (h : RMem w0 w sb so sc wb wo wc fs vs) (hc : Chg (fun _ => False) w w') : RMem w0 w' sb so sc wb wo wc fs vs :=
  ⟨h.fnd, h.sets.chg hc (fun x => x), h.words.chg hc (fun x => x), fun k hk => by
    obtain ⟨g, c, h1, h2, h3, h4, h5, h6⟩ := h.each k hk
    exact ⟨g, c, h1, h2, h3, h4, Nat.lt_of_lt_of_le h5 hc.size, h6.chg hc (fun x => x)⟩, h.apart, h.olds, h.oldw, h.chg.trans hc (fun _ x => x.elim)⟩

/-- A new set and its word at the ends of both lists. -/
theorem RMem.push {w0 w w1 w2 w3 : World} {sb so sc wb wo wc sb' so' sc' wb' wo' wc' g c : Nat} {fs : List Fd} {vs : List Value} {q : Fd} (h : RMem w0 w sb so sc wb wo wc fs vs)
    (hg : w0.heap.size ≤ g) (hgl : g < w.heap.size) (hgs : g ≠ sb) (hgw : g ≠ wb) (hat : NatsAt w g 0 (vec q.1))
    (h1 : QueB w1 1 sb' so' sc' (fs.length + 1) (vs ++ [.slice (some ⟨g, 0, none⟩) 4 c])) (hs1 : sb' = sb ∨ w.heap.size ≤ sb') (hc1 : Chg (fun k => k = sb) w w1)
    (hc2 : Chg (fun _ => False) w1 w2)
    (h3 : QueB w3 1 wb' wo' wc' (fs.length + 1) (wordV fs ++ [.string (txt q.2)])) (hs3 : wb' = wb ∨ w2.heap.size ≤ wb') (hc3 : Chg (fun k => k = wb) w2 w3)
    (hF : Fnd (fs ++ [q])) : RMem w0 w3 sb' so' sc' wb' wo' wc' (fs ++ [q]) (vs ++ [.slice (some ⟨g, 0, none⟩) 4 c]) := by
  have hsz := h.sets.lt
  have hwz := h.words.lt
  have k1 := hc1.size
  have k2 := hc2.size
  have k3 := hc3.size
  have k0 := h.chg.size
  have hlen := h.sets.len
  have ha := h.apart
  have ho := h.olds
  have hw := h.oldw
  have hl1 := h1.lt
  have hne : sb' ≠ wb := by rcases hs1 with e | e <;> omega
  have c1 : Chg (fun k => k = sb ∨ k = wb) w w1 := hc1.mono (fun _ h => .inl h)
  have c2 : Chg (fun k => k = sb ∨ k = wb) w w2 := c1.trans hc2 (fun _ x => x.elim)
  have c3 : Chg (fun k => k = sb ∨ k = wb) w w3 := c2.trans hc3 (fun k hk => .inl (.inr hk))
  refine ⟨hF, ?_, ?_, ?_, ?_, ?_, ?_, ?_⟩
  · rw [List.length_append, List.length_singleton]
    exact (h1.chg hc2 (fun x => x)).chg hc3 hne
  · rw [List.length_append, List.length_singleton, wordV, List.map_append]
    exact h3
  · intro k hk
    rw [List.length_append, List.length_singleton] at hk
    by_cases hkl : k < fs.length
    · obtain ⟨gk, ck, e1, e2, e3, e4, e5, e6⟩ := h.each k hkl
      refine ⟨gk, ck, by rw [List.getElem?_append_left (by omega)]; exact e1, e2, ?_, ?_, by omega, ?_⟩
      · rcases hs1 with e | e <;> omega
      · rcases hs3 with e | e <;> omega
      · rw [List.getElem_append_left hkl]
        exact e6.chg c3 (by omega)
    · obtain rfl : k = fs.length := by omega
      refine ⟨g, c, by rw [List.getElem?_append_right (by omega), hlen]; simp, hg, ?_, ?_, by omega, ?_⟩
      · rcases hs1 with e | e <;> omega
      · rcases hs3 with e | e <;> omega
      · rw [List.getElem_append_right (Nat.le_refl _)]
        simp only [Nat.sub_self, List.getElem_cons_zero]
        exact hat.chg c3 (by omega)
  · rcases hs1 with e | e <;> rcases hs3 with e' | e' <;> omega
  · rcases hs1 with e | e <;> omega
  · rcases hs3 with e | e <;> omega
  · exact h.chg.trans c3 (fun k hk => .inr (by omega))
end Go.Proofs.YtdopmafhdhahiaaDoor
