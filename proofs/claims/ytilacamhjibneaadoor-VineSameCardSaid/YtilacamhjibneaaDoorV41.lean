/- Bytes that grow from nothing. Their conditions are their premises. -/
import Derived.Test.YtilacamhjibneaaDoorV40
set_option linter.unusedVariables false
namespace Go.Proofs.YtilacamhjibneaaDoor
open Go.RowKit

/-- Nothing, or bytes of the call's own. -/
def OutB (w : World) (base : Nat) (v : Value) (l : List Nat) : Prop := (v = .slice none 0 0 ∧ l = []) ∨ ∃ g c, v = .slice (some ⟨g, 0, none⟩) l.length c ∧ base ≤ g ∧ QueC w g c l.length (u8V l)
theorem OutB.chg {S : Nat → Prop} {w w' : World} {base : Nat} {v : Value} {l : List Nat} (h : OutB w base v l) (hc : Chg S w w') (hS : ∀ k, base ≤ k → ¬ S k) : OutB w' base v l := by
  rcases h with h | ⟨g, c, h1, h2, h3⟩
  · exact .inl h
  · exact .inr ⟨g, c, h1, h2, h3.chg hc (hS g h2)⟩
theorem que_of_owns {w : World} {base n : Nat} {v : Value} {xs : List Value} (h : w.ownsRow base 5 1 v n xs) (hn : 0 < n) : ∃ g c, v = .slice (some ⟨g, 0, none⟩) n c ∧ base ≤ g ∧ QueC w g c n xs := by
  obtain ⟨g, c, hv, hb, hq⟩ := QueB.of_owns h hn
  exact ⟨g, c, hv, hb, hq.lt, hq.le, by rw [hq.len, Nat.mul_one], fun j u hj => by have := hq.at_ j u hj; rwa [Nat.zero_add] at this, fun j hj => by have := hq.there j (by omega); rwa [Nat.zero_add] at this, fun j _ => hq.free j⟩
theorem run_append_out (w : World) (ty : TypeId) (base : Nat) (v : Value) (l t : List Nat) (h : OutB w base v l) (hb : base ≤ w.heap.size) (ht : ∀ c ∈ t, c < 100) (hl : l.length + t.length ≤ 140737488355328) :
    ∃ v' w', (Builtin.append_ #[52, 9] ty #[v, .string (str t)]).run Tryd.prog w = .ok v' w' ∧ OutB w' base v' (l ++ t) ∧ Chg (fun k => base ≤ k) w w' := by
  obtain ⟨i0, h0, h1, h2, h3⟩ := info_parts infoByte5
  rcases h with ⟨rfl, rfl⟩ | ⟨g, c, rfl, hg, hq⟩
  · obtain ⟨v', w', hr, ho, hgr, hnil⟩ := Lib.run_append_own_string (P := Tryd.prog) w base 52 9 ty 5 i0 Tryd.underlying52 Tryd.underlying9 h0 h1 h2 h3 (.slice none 0 0) 0 [] (World.ownsRow_nil w base 5 1) (str t) (by rw [str_size]; unfold maxLen; simp at hl; omega) (by rw [str_size]; simpa using hl) hb
    rw [str_size, strCells_str ht] at ho
    refine ⟨v', w', hr, ?_, (Chg.of_grownRow hgr).mono (fun k hk => by simp [Value.ownBlock] at hk)⟩
    cases t with
    | nil =>
      have := hnil.2 ⟨rfl, by rw [str_size]; rfl⟩
      exact .inl ⟨this, rfl⟩
    | cons a t =>
      obtain ⟨g, c, hv, hg, hq⟩ := que_of_owns ho (by simp)
      refine .inr ⟨g, c, ?_, hg, ?_⟩
      · rw [hv]; simp
      · have e : (0 + (a :: t).length) = ([] ++ a :: t).length := by simp
        rw [e] at hq
        simpa using hq
  · obtain ⟨g', c', w', hr, hq', hg', hc⟩ := run_append_str (P := Tryd.prog) w 52 9 ty 5 i0 Tryd.underlying52 Tryd.underlying9 h0 h1 h2 h3 g c l.length (u8V l) hq (str t) (by rw [str_size]; unfold maxLen; omega) (by rw [str_size]; omega)
    rw [str_size, strCells_str ht, ← u8V_app] at hq'
    rw [str_size] at hr
    refine ⟨_, w', hr, .inr ⟨g', c', by rw [List.length_append], ?_, by rw [List.length_append]; exact hq'⟩, hc.mono (fun k hk => by rw [hk]; exact hg)⟩
    rcases hg' with h | h
    · rw [h]; exact hg
    · omega
theorem wpList_append_out {w : World} {ops : Array Oper} {rest : List Oper} {o : Oper} {a : Act} {Q : Exit → Act → World → Prop} (hgd : o.guard = none) (sl x : Operand)
    (ho : o.op = .call { callee := .builtin .append, args := #[sl, x], argTypes := #[52, 9] }) (base : Nat) (v : Value) (l t : List Nat) (hs : a.eval sl = v) (hx : a.eval x = .string (str t)) (h : OutB w base v l) (hb : base ≤ w.heap.size) (ht : ∀ c ∈ t, c < 100) (hl : l.length + t.length ≤ 140737488355328)
    (hK : ∀ v' w', OutB w' base v' (l ++ t) → Chg (fun k => base ≤ k) w w' → wpList Tryd.prog ops Q rest (a.put o.dst v') w') : wpList Tryd.prog ops Q (o :: rest) a w := by
  refine wpList_step fun K hK' => ?_
  rw [if_pos (by simp [Region.wanted, hgd])]
  obtain ⟨v', w', hrun, r1, r2⟩ := run_append_out w o.type base v l t h hb ht hl
  unfold Oper.wp
  simp [execOp, ho, resolve, invoke, builtin, hs, hx, hrun, Result.andThen]
  exact hK' _ _ (hK v' w' r1 r2)
end Go.Proofs.YtilacamhjibneaaDoor
