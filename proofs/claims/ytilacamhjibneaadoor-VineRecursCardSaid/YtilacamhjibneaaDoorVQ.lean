/- A queue: a slice of the call's own that loses its first element and grows at its end. Its conditions are its premises. -/
import Derived.Test.YtilacamhjibneaaDoorV14
import Derived.Laws.IdiomCopy
import Derived.Deep.RegionLaw
import Derived.Deep.MidRow
import Derived.Deep.RegionHeld3
set_option linter.unusedVariables false
namespace Go
theorem Chg.setCells {S : Nat → Prop} {w w' : World} {b : Nat} (h : Chg S w w') (hb : S b ∨ w.heap.size ≤ b) : ∀ (vs : List Value) (o : Nat), Chg S w (w'.setCells b o vs) := by
  intro vs
  induction vs generalizing w' with
  | nil => intro o; exact h
  | cons v vs ih => intro o; exact ih (h.setCell (a := ⟨b, o, none⟩) hb v) (o + 1)

/-- n elements of the size, the cells cs, from cell o of block g on, with room up to c elements. -/
structure QueB (w : World) (size g o c n : Nat) (cs : List Value) : Prop where
  lt : g < w.heap.size
  le : n ≤ c
  len : cs.length = n * size
  at_ : ∀ j u, cs[j]? = some u → w.cell? ⟨g, o + j, none⟩ = some u
  there : ∀ j, j < c * size → (w.cell? ⟨g, o + j, none⟩).isSome = true
  free : ∀ j, w.frozen? ⟨g, j, none⟩ = false

namespace QueB
variable {w w' : World} {size g o c n : Nat} {cs : List Value}
theorem chg {S : Nat → Prop} (h : QueB w size g o c n cs) (hc : Chg S w w') (hn : ¬ S g) : QueB w' size g o c n cs :=
  ⟨Nat.lt_of_lt_of_le h.lt hc.size, h.le, h.len, fun j u hj => hc.cell_some (h.at_ j u hj) hn, fun j hj => by rw [hc.cell (p := ⟨g, o + j, none⟩) h.lt hn]; exact h.there j hj, fun j => by rw [hc.frozen (p := ⟨g, j, none⟩) h.lt hn]; exact h.free j⟩

/-- The first element falls away. -/
theorem tail (h : QueB w size g o c (n + 1) cs) : QueB w size g (if c = 1 then o else o + size) (c - 1) n (cs.drop size) := by
  have hle := h.le
  refine ⟨h.lt, by omega, by rw [List.length_drop, h.len, Nat.add_mul]; omega, fun j u hj => ?_, fun j hj => ?_, h.free⟩
  · rw [List.getElem?_drop] at hj
    by_cases hc : c = 1
    · obtain rfl : n = 0 := by omega
      have := h.len
      rw [List.getElem?_eq_none (by omega)] at hj
      cases hj
    · rw [if_neg hc, Nat.add_assoc]
      exact h.at_ _ u hj
  · by_cases hc : c = 1
    · subst hc; simp at hj
    · rw [if_neg hc, Nat.add_assoc]
      refine h.there _ ?_
      obtain ⟨d, rfl⟩ : ∃ d, c = d + 1 := ⟨c - 1, by omega⟩
      rw [Nat.add_sub_cancel] at hj
      rw [Nat.add_mul]
      omega

theorem of_owns {base : Nat} {e : TypeId} {v : Value} (h : w.ownsRow base e size v n cs) (hn : 0 < n) : ∃ g c, v = .slice (some ⟨g, 0, none⟩) n c ∧ base ≤ g ∧ QueB w size g 0 c n cs := by
  rcases h.2 with ⟨_, h0⟩ | ⟨g, c, cur, rfl, hb, hg, hle, hc, hsz, htk⟩
  · omega
  · refine ⟨g, c, rfl, hb, (Array.getElem?_eq_some_iff.1 hg).1, hle, h.1, fun j u hj => ?_, fun j hj => ?_, fun j => ?_⟩
    · have := h.cells (g := g) rfl j u hj
      rwa [Go.Proofs.YtilacamhjibneaaDoor.add_plain] at this
    · simp [World.cell?, hg]; omega
    · simp [World.frozen?, hg]
end QueB

section
variable {P : Program}
theorem run_append_que (w : World) (t ty e : TypeId) (i : TypeInfo) (z : Value) (size bytes : Nat) (ht : P.underlying t = some (.slice e)) (hi : P.info? e = some i) (hz : i.zero = some z)
    (hsize : i.size = size) (hby : i.bytes = bytes) (hzs : z.cells.size = size) (hsz : 0 < size)
    (g off cap n : Nat) (xs : List Value) (hq : QueB w size g off cap n xs)
    (a : Addr) (m c : Nat) (news : List Value) (hl : news.length = m * size) (hm : 0 < m) (hnews : ∀ j u, news[j]? = some u → w.cell? (a.add j) = some u) (h1 : ∀ u ∈ news, u.oneCell' = true)
    (h63 : n + m ≤ maxLen) (hbytes : (n + m) * bytes ≤ 140737488355328) :
    ∃ g' o' c' w', (Builtin.append_ #[t, t] ty #[.slice (some ⟨g, off, none⟩) n cap, .slice (some a) m c]).run P w = .ok (.slice (some ⟨g', o', none⟩) (n + m) c') w' ∧ QueB w' size g' o' c' (n + m) (xs ++ news) ∧
      (g' = g ∨ w.heap.size ≤ g') ∧ Chg (fun k => k = g) w w' := by
  have hlen : (xs ++ news).length = (n + m) * size := by rw [List.length_append, hq.len, hl, Nat.add_mul]
  by_cases hroom : n + m ≤ cap
  · subst hsize
    have hin : (n + m) * i.size ≤ cap * i.size := Nat.mul_le_mul_right _ hroom
    rw [Nat.add_mul] at hin
    have hthere : ∀ j, j < news.length → (w.cell? ⟨g, off + n * i.size + j, none⟩).isSome = true := fun j hj => by
      rw [Nat.add_assoc]
      exact hq.there _ (by omega)
    have hrun := run_append_room_cells (P := P) w t ty e i ht hi g off n cap a m c news hl hnews h1 hroom hthere (fun j _ => hq.free _)
    refine ⟨g, off, cap, _, hrun, ⟨?_, hroom, hlen, fun j u hj => ?_, fun j hj => World.isSome_setCells g news _ w _ (hq.there j hj), fun j => ?_⟩, .inl rfl, (Chg.refl (fun k => k = g) w).setCells (.inl rfl) news _⟩
    · exact Nat.lt_of_lt_of_le hq.lt ((Chg.refl (fun k => k = g) w).setCells (.inl rfl) news (off + n * i.size)).size
    · by_cases hx : j < xs.length
      · rw [List.getElem?_append_left hx] at hj
        rw [World.cell?_setCells_out g news _ w ⟨g, off + j, none⟩ (fun _ _ => .inl (by show off + j < off + n * i.size; have := hq.len; omega))]
        exact hq.at_ j u hj
      · rw [List.getElem?_append_right (by omega)] at hj
        have hjl : j - xs.length < news.length := (List.getElem?_eq_some_iff.1 hj).1
        have := World.cell?_setCells_in g news (off + n * i.size) w hthere (j - xs.length) hjl
        rw [show off + n * i.size + (j - xs.length) = off + j by have := hq.len; omega] at this
        rw [this]
        rw [List.getElem?_eq_getElem hjl] at hj
        exact hj
    · rw [World.frozen?_setCells]
      exact hq.free j
  · obtain ⟨v', w', hrun, ho, hgr⟩ := run_append_arg_grows (P := P) w t ty e i z size bytes ht hi hz hsize hby hzs hsz ⟨g, off, none⟩ n cap xs hq.len (fun j u hj => by rw [Go.Proofs.YtilacamhjibneaaDoor.add_plain]; exact hq.at_ j u hj) a m c news hl hnews (by omega) h63 hbytes
    obtain ⟨g', c', rfl, hb, hq'⟩ := QueB.of_owns ho (by omega)
    exact ⟨g', 0, c', w', hrun, hq', .inr hb, hgr.os, hgr.tape, hgr.output, hgr.size, fun k hk _ => hgr.block k hk (by simp)⟩

theorem step_append_que {w : World} {ops : Array Oper} {o : Oper} {a : Act} {K : Act → World → Prop} {Q : Exit → Act → World → Prop} {E : Prop} (hgd : o.guard = none) (s x : Operand) (t : TypeId)
    (ho : o.op = .call { callee := .builtin .append, args := #[s, x], argTypes := #[t, t] })
    (e : TypeId) (i : TypeInfo) (z : Value) (size bytes : Nat) (ht : P.underlying t = some (.slice e)) (hi : P.info? e = some i) (hz : i.zero = some z)
    (hsize : i.size = size) (hby : i.bytes = bytes) (hzs : z.cells.size = size) (hsz : 0 < size)
    (g off cap n : Nat) (xs : List Value) (hs : a.eval s = .slice (some ⟨g, off, none⟩) n cap) (hq : QueB w size g off cap n xs)
    (ad : Addr) (m c : Nat) (news : List Value) (hx : a.eval x = .slice (some ad) m c) (hl : news.length = m * size) (hm : 0 < m) (hnews : ∀ j u, news[j]? = some u → w.cell? (ad.add j) = some u) (h1 : ∀ u ∈ news, u.oneCell' = true)
    (h63 : n + m ≤ maxLen) (hbytes : (n + m) * bytes ≤ 140737488355328)
    (hK : ∀ g' o' c' w', QueB w' size g' o' c' (n + m) (xs ++ news) → (g' = g ∨ w.heap.size ≤ g') → Chg (fun k => k = g) w w' → K (a.put o.dst (.slice (some ⟨g', o', none⟩) (n + m) c')) w') :
    if Region.wanted o (yielded ops a.tmps) = true then Oper.wp P o a w K Q else E := by
  rw [if_pos (by simp [Region.wanted, hgd])]
  obtain ⟨g', o', c', w', hrun, r1, r2, r3⟩ := run_append_que (P := P) w t o.type e i z size bytes ht hi hz hsize hby hzs hsz g off cap n xs hq ad m c news hl hm hnews h1 h63 hbytes
  unfold Oper.wp
  simp [execOp, ho, resolve, invoke, builtin, hs, hx, hrun, Result.andThen]
  exact hK g' o' c' w' r1 r2 r3
theorem wpList_append_que {w : World} {ops : Array Oper} {rest : List Oper} {o : Oper} {a : Act} {Q : Exit → Act → World → Prop} (hgd : o.guard = none) (s x : Operand) (t : TypeId)
    (ho : o.op = .call { callee := .builtin .append, args := #[s, x], argTypes := #[t, t] })
    (e : TypeId) (i : TypeInfo) (z : Value) (size bytes : Nat) (ht : P.underlying t = some (.slice e)) (hi : P.info? e = some i) (hz : i.zero = some z)
    (hsize : i.size = size) (hby : i.bytes = bytes) (hzs : z.cells.size = size) (hsz : 0 < size)
    (g off cap n : Nat) (xs : List Value) (hs : a.eval s = .slice (some ⟨g, off, none⟩) n cap) (hq : QueB w size g off cap n xs)
    (ad : Addr) (m c : Nat) (news : List Value) (hx : a.eval x = .slice (some ad) m c) (hl : news.length = m * size) (hm : 0 < m) (hnews : ∀ j u, news[j]? = some u → w.cell? (ad.add j) = some u) (h1 : ∀ u ∈ news, u.oneCell' = true)
    (h63 : n + m ≤ maxLen) (hbytes : (n + m) * bytes ≤ 140737488355328)
    (h : ∀ g' o' c' w', QueB w' size g' o' c' (n + m) (xs ++ news) → (g' = g ∨ w.heap.size ≤ g') → Chg (fun k => k = g) w w' → wpList P ops Q rest (a.put o.dst (.slice (some ⟨g', o', none⟩) (n + m) c')) w') : wpList P ops Q (o :: rest) a w := by
  refine wpList_step fun K hK => ?_
  rw [if_pos (by simp [Region.wanted, hgd])]
  obtain ⟨g', o', c', w', hrun, r1, r2, r3⟩ := run_append_que (P := P) w t o.type e i z size bytes ht hi hz hsize hby hzs hsz g off cap n xs hq ad m c news hl hm hnews h1 h63 hbytes
  unfold Oper.wp
  simp [execOp, ho, resolve, invoke, builtin, hs, hx, hrun, Result.andThen]
  exact hK _ _ (h g' o' c' w' r1 r2 r3)
/-- A slice of m elements, or of none, is appended to a queue. -/
theorem wpList_append_queA {w : World} {ops : Array Oper} {rest : List Oper} {o : Oper} {a : Act} {Q : Exit → Act → World → Prop} (hgd : o.guard = none) (s x : Operand) (t : TypeId)
    (ho : o.op = .call { callee := .builtin .append, args := #[s, x], argTypes := #[t, t] })
    (e : TypeId) (i : TypeInfo) (z : Value) (size bytes : Nat) (ht : P.underlying t = some (.slice e)) (hi : P.info? e = some i) (hz : i.zero = some z)
    (hsize : i.size = size) (hby : i.bytes = bytes) (hzs : z.cells.size = size) (hsz : 0 < size)
    (g off cap n : Nat) (xs : List Value) (hs : a.eval s = .slice (some ⟨g, off, none⟩) n cap) (hq : QueB w size g off cap n xs)
    (bo : Option Addr) (m c : Nat) (news : List Value) (hx : a.eval x = .slice bo m c) (hl : news.length = m * size) (hsrc : m = 0 ∨ ∃ a, bo = some a ∧ ∀ j u, news[j]? = some u → w.cell? (a.add j) = some u) (h1 : ∀ u ∈ news, u.oneCell' = true)
    (h63 : n + m ≤ maxLen) (hbytes : (n + m) * bytes ≤ 140737488355328)
    (h : ∀ g' o' c' w', QueB w' size g' o' c' (n + m) (xs ++ news) → (g' = g ∨ w.heap.size ≤ g') → Chg (fun k => k = g) w w' → wpList P ops Q rest (a.put o.dst (.slice (some ⟨g', o', none⟩) (n + m) c')) w') : wpList P ops Q (o :: rest) a w := by
  by_cases hm : m = 0
  · subst hm
    have hn : news = [] := List.eq_nil_of_length_eq_zero (by simpa using hl)
    subst hn
    have hrun := run_append_empty (P := P) (w := w) t o.type e i ht hi (some ⟨g, off, none⟩) n cap hq.le bo c
    refine wpList_step fun K hK => ?_
    rw [if_pos (by simp [Region.wanted, hgd])]
    unfold Oper.wp
    simp [execOp, ho, resolve, invoke, builtin, hs, hx, hrun, Result.andThen]
    refine hK _ _ (h g off cap w (by simpa using hq) (.inl rfl) (Chg.refl _ _))
  · obtain ⟨ad, rfl, hnews⟩ := hsrc.resolve_left hm
    exact wpList_append_que hgd s x t ho e i z size bytes ht hi hz hsize hby hzs hsz g off cap n xs hs hq ad m c news hx hl (by omega) hnews h1 h63 hbytes h
end
end Go
namespace Go.Proofs.YtilacamhjibneaaDoor
theorem _root_.Go.QueB.of_blk {w : World} {g n : Nat} {e : TypeId} {vals : List Value} (h : Blk w g e vals) (size : Nat) (hn : vals.length = n * size) : QueB w size g 0 n n vals :=
  ⟨h.lt, Nat.le_refl _, hn, fun j u hj => by rw [Nat.zero_add]; exact h.cell_some hj, fun j hj => by rw [Nat.zero_add, h.cell, List.getElem?_eq_getElem (by omega)]; rfl, fun j => h.free j⟩

end Go.Proofs.YtilacamhjibneaaDoor
