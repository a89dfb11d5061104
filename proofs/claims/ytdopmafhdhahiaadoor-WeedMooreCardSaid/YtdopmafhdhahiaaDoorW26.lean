/- A map of the call's own from pairs to true; a queue to which any slice is appended; the search of splits in plain Lean. Its conditions are its premises. -/
import Derived.Test.YtdopmafhdhahiaaDoorW24
import Derived.Test.YtdopmafhdhahiaaDoorW25
import Derived.DeepKeys4
set_option linter.unusedVariables false
namespace Go
section
variable {P : Program}
/-- A slice of m elements, or of none, is appended to a queue. -/
theorem wpList_append_queA {w : World} {ops : Array Oper} {rest : List Oper} {o : Oper} {a : Act} {Q : Exit → Act → World → Prop} (hgd : o.guard = none) (s x : Operand) (t : TypeId)
    (ho : o.op = .call { callee := .builtin .append, args := #[s, x], argTypes := #[t, t] })
    (e : TypeId) (i : TypeInfo) (z : Value) (size bytes : Nat) (ht : P.underlying t = some (.slice e)) (hi : P.info? e = some i) (hz : i.zero = some z)
    (hsize : i.size = size) (hby : i.bytes = bytes) (hzs : z.cells.size = size) (hsz : 0 < size)
    (g off cap n : Nat) (xs : List Value) (hs : a.eval s = .slice (some ⟨g, off, none⟩) n cap) (hq : QueB w size g off cap n xs)
    (bo : Option Addr) (m c : Nat) (news : List Value) (hx : a.eval x = .slice bo m c) (hl : news.length = m * size) (hsrc : m = 0 ∨ ∃ a, bo = some a ∧ ∀ j u, news[j]? = some u → w.cell? (a.add j) = some u) (h1 : ∀ u ∈ news, u.oneCell' = true)
    (h63 : n + m ≤ maxLen) (hbytes : (n + m) * bytes ≤ 140737488355328)
    (h : ∀ g' o' c' w', QueB w' size g' o' c' (n + m) (xs ++ news) → (g' = g ∨ w.heap.size ≤ g') → Chg (fun k => k = g) w w' → wpList P ops Q rest (a.put o.dst (.slice (some ⟨g', o', none⟩) (n + m) c')) w') : wpList P ops Q (o :: rest) a w := by
  by_cases hm : m = 0
  · subst hm
    have hn : news = [] := List.eq_nil_of_length_eq_zero (by simpa using hl)
    subst hn
    have hrun := run_append_empty (P := P) (w := w) t o.type e i ht hi (some ⟨g, off, none⟩) n cap hq.le bo c
    refine wpList_step fun K hK => ?_
    rw [if_pos (by simp [Region.wanted, hgd])]
    unfold Oper.wp
    simp [execOp, ho, resolve, invoke, builtin, hs, hx, hrun, Result.andThen]
    refine hK _ _ (h g off cap w (by simpa using hq) (.inl rfl) (Chg.refl _ _))
  · obtain ⟨ad, rfl, hnews⟩ := hsrc.resolve_left hm
    exact wpList_append_que hgd s x t ho e i z size bytes ht hi hz hsize hby hzs hsz g off cap n xs hs hq ad m c news hx hl (by omega) hnews h1 h63 hbytes h
end
end Go
namespace Go.Proofs.YtdopmafhdhahiaaDoor
open Go.RowKit Go.Maps Go.WideMaps

theorem laidOut : laidOutB Tryd.prog = true := by kernel_rfl
theorem row59 : (59 : TypeId) < Tryd.prog.types.size := of_decide_eq_true (by kernel_rfl)
theorem wide59 : (match Tryd.prog.underlying 59 with | some (.array _ _) | some (.struct _) => true | _ => false) = true := by rw [Tryd.underlying59]
theorem law59 : Keyed Tryd.prog 59 := Keyed.of_law (deep_law_laid laidOut (m := 2) (by omega) row59 (by kernel_rfl) wide59)

def prV (p : Pr) : Value := .agg #[.int .i64 (p.1 : Int), .int .i64 (p.2 : Int)]
noncomputable def prK (p : Pr) : Lit := (keyOf Tryd.prog 59 (prV p)).getD (.bool false)
theorem prK00 : (keyOf Tryd.prog 59 (prV (0, 0))).isSome = true := by kernel_rfl
theorem prK01 : (keyOf Tryd.prog 59 (prV (0, 1))).isSome = true := by kernel_rfl
theorem prK02 : (keyOf Tryd.prog 59 (prV (0, 2))).isSome = true := by kernel_rfl
theorem prK03 : (keyOf Tryd.prog 59 (prV (0, 3))).isSome = true := by kernel_rfl
theorem prK10 : (keyOf Tryd.prog 59 (prV (1, 0))).isSome = true := by kernel_rfl
theorem prK11 : (keyOf Tryd.prog 59 (prV (1, 1))).isSome = true := by kernel_rfl
theorem prK12 : (keyOf Tryd.prog 59 (prV (1, 2))).isSome = true := by kernel_rfl
theorem prK13 : (keyOf Tryd.prog 59 (prV (1, 3))).isSome = true := by kernel_rfl
theorem prK20 : (keyOf Tryd.prog 59 (prV (2, 0))).isSome = true := by kernel_rfl
theorem prK21 : (keyOf Tryd.prog 59 (prV (2, 1))).isSome = true := by kernel_rfl
theorem prK22 : (keyOf Tryd.prog 59 (prV (2, 2))).isSome = true := by kernel_rfl
theorem prK23 : (keyOf Tryd.prog 59 (prV (2, 3))).isSome = true := by kernel_rfl
theorem prK30 : (keyOf Tryd.prog 59 (prV (3, 0))).isSome = true := by kernel_rfl
theorem prK31 : (keyOf Tryd.prog 59 (prV (3, 1))).isSome = true := by kernel_rfl
theorem prK32 : (keyOf Tryd.prog 59 (prV (3, 2))).isSome = true := by kernel_rfl
theorem prK33 : (keyOf Tryd.prog 59 (prV (3, 3))).isSome = true := by kernel_rfl
theorem prK_some {p : Pr} (h : p.1 < 4 ∧ p.2 < 4) : (keyOf Tryd.prog 59 (prV p)).isSome = true := by
  obtain ⟨a, b⟩ := p
  obtain ⟨h1, h2⟩ := h
  dsimp only at h1 h2
  have ha : a = 0 ∨ a = 1 ∨ a = 2 ∨ a = 3 := by omega
  have hb : b = 0 ∨ b = 1 ∨ b = 2 ∨ b = 3 := by omega
  rcases ha with rfl | rfl | rfl | rfl <;> rcases hb with rfl | rfl | rfl | rfl
  · exact prK00
  · exact prK01
  · exact prK02
  · exact prK03
  · exact prK10
  · exact prK11
  · exact prK12
  · exact prK13
  · exact prK20
  · exact prK21
  · exact prK22
  · exact prK23
  · exact prK30
  · exact prK31
  · exact prK32
  · exact prK33
theorem prK_eq {p : Pr} (h : p.1 < 4 ∧ p.2 < 4) : keyOf Tryd.prog 59 (prV p) = some (prK p) := by
  have := prK_some h
  unfold prK
  obtain ⟨l, hl⟩ := Option.isSome_iff_exists.1 this
  rw [hl]
  rfl
theorem prK_inj {p q : Pr} (hp : p.1 < 4 ∧ p.2 < 4) (hq : q.1 < 4 ∧ q.2 < 4) (h : prK p = prK q) : p = q := by
  have := law59.inj (prK_eq hp) (by rw [h]; exact prK_eq hq)
  unfold prV at this
  injection this with this
  have h1 := congrArg Array.toList this
  simp at h1
  exact Prod.ext (by omega) (by omega)

noncomputable def seenP (S : List Pr) : DataW Unit := S.foldl (fun d p => d.put (prK p) (.lit (.bool true))) (.map [])
theorem seenP_snoc (S : List Pr) (p : Pr) : seenP (S ++ [p]) = (seenP S).put (prK p) (.lit (.bool true)) := by
  unfold seenP
  rw [List.foldl_append]
  rfl
theorem seenP_isMap (S : List Pr) : IsMap (seenP S) := by
  suffices ∀ (S : List Pr) (d : DataW Unit), IsMap d → IsMap (S.foldl (fun d p => d.put (prK p) (.lit (.bool true))) d) from this S _ ⟨[], rfl⟩
  intro S
  induction S with
  | nil => exact fun d h => h
  | cons e S ih => exact fun d h => ih _ (isMap_put h _ _)

theorem seenP_at {p : Pr} (hp : p.1 < 4 ∧ p.2 < 4) : ∀ (S : List Pr), (∀ q ∈ S, q.1 < 4 ∧ q.2 < 4) → (seenP S).atKey (prK p) (.lit (.bool false)) = .lit (.bool (decide (p ∈ S))) := by
  suffices ∀ (n : Nat) (S : List Pr), S.length = n → (∀ q ∈ S, q.1 < 4 ∧ q.2 < 4) → (seenP S).atKey (prK p) (.lit (.bool false)) = .lit (.bool (decide (p ∈ S))) from fun S => this _ S rfl
  intro n
  induction n with
  | zero =>
    intro S hS _
    obtain rfl := List.length_eq_zero_iff.1 hS
    simp
    rfl
  | succ n ih =>
    intro S hS hs
    obtain ⟨T, x, rfl⟩ : ∃ T x, S = T ++ [x] := ⟨S.dropLast, S.getLast (by intro h; simp [h] at hS), (List.dropLast_concat_getLast _).symm⟩
    have hx4 := hs x (by simp)
    rw [seenP_snoc]
    by_cases hx : p = x
    · subst hx
      rw [atKey_put_same (seenP_isMap T) (law59.key (prK_eq hp))]
      simp
    · rw [atKey_put_other (fun h => hx (prK_inj hp hx4 h)), ih T (by simpa using hS) (fun q hq => hs q (by simp [hq]))]
      simp [hx]

/-- Block b is a map in which the pairs S have been seen. -/
def Seen2 (w : World) (b : Nat) (S : List Pr) : Prop := w.ownsMap (H := Unit) Tryd.prog 59 (plainElem Tryd.prog 4) b S.length (seenP S)
theorem Seen2.lt {w : World} {b : Nat} {S : List Pr} (h : Seen2 w b S) : b < w.heap.size := World.ownsMap.lt h
theorem Seen2.chg {w w' : World} {b : Nat} {S : List Pr} {T : Nat → Prop} (h : Seen2 w b S) (hc : Chg T w w') (hn : ¬ T b) : Seen2 w' b S := by
  have hlt := h.lt
  obtain ⟨es, clock, hb, F, hs, hD⟩ := h
  exact ⟨es, clock, (hc.block b hlt hn).trans hb, F, hs, hD⟩
theorem Seen2.look {w : World} {b : Nat} {S : List Pr} (h : Seen2 w b S) (hS : ∀ q ∈ S, q.1 < 4 ∧ q.2 < 4) {p : Pr} (hp : p.1 < 4 ∧ p.2 < 4) : (Instr.lookup 62 (.map (some b)) (prV p) false).run Tryd.prog w = .ok (.bool (decide (p ∈ S))) w := by
  obtain ⟨v, ps, hrun, hv⟩ := World.ownsMap.lookup h law59 Tryd.underlying62 (zero4 w) (plainElem_bool Tryd.underlying4 false) (prK_eq hp)
  obtain ⟨x, rfl, hx⟩ := plainElem_bool_inv hv
  rw [seenP_at hp S hS] at hx
  injection hx with hx _
  injection hx with hx
  injection hx with hx
  rw [hrun, hx]
theorem Seen2.put {w : World} {b : Nat} {S : List Pr} (h : Seen2 w b S) (hS : S.length < 1000) {p : Pr} (hp : p.1 < 4 ∧ p.2 < 4) :
    ∃ w', (Instr.mapUpdate 62 (.map (some b)) (prV p) (.bool true)).run Tryd.prog w = .ok () w' ∧ Seen2 w' b (S ++ [p]) ∧ Chg (fun k => k = b) w w' := by
  obtain ⟨w', hrun, ho, hg⟩ := World.ownsMap.update h law59 Tryd.underlying62 (by unfold maxLen; omega) (prK_eq hp) (plainElem_bool (H := Unit) Tryd.underlying4 true)
  refine ⟨w', hrun, ?_, hg.os, hg.tape, hg.output, hg.size, fun k hk hn => hg.block k hk (by intro e; injection e with e; exact hn e)⟩
  unfold Seen2
  rw [seenP_snoc]
  simpa using ho

/-! The search in plain Lean. -/
def srchF (u : Nat) (p0 : Pr) : Nat → List Pr → List Pr → Bool
  | _, [], _ => false
  | 0, _ :: _, _ => false
  | f + 1, q :: l, S => if q = p0 then true else if q ∈ S then srchF u p0 f l S else srchF u p0 f (l ++ nxV u q) (S ++ [q])
def spl (u a b : Nat) : Bool := a != b && srchF u (a, b) 200 (nxV u (a, b)) []
def splF (u : Nat) : Nat → Bool
  | 0 => false
  | k + 1 => splF u k || spl u (k / 4) (k % 4)
def splitsV (u : Nat) : Bool := splF u 16
theorem splF_mono {u k : Nat} (h : splF u k = true) : ∀ {m}, k ≤ m → splF u m = true := by
  intro m hm
  induction hm with
  | refl => exact h
  | step _ ih => rw [splF, ih]; rfl
end Go.Proofs.YtdopmafhdhahiaaDoor
