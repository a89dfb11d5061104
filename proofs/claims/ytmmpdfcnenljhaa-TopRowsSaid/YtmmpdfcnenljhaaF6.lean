/- The fences without the first one, whose posts are made one, walked. Its conditions are its premises. -/
import Derived.Test.YtmmpdfcnenljhaaF5
set_option linter.unusedVariables false
namespace Go.Proofs.Ytmmpdfcnenljhaa
open Go.RowKit

/-- A fence where the second post of f has become its first one. -/
def closeFe (f x : Fe) : Fe := ⟨if x.a = f.b then f.a else x.a, if x.b = f.b then f.a else x.b⟩

theorem FRow.chg {w w' : World} {g cap : Nat} {l : List Fe} {S : Nat → Prop} (h : FRow w g l cap) (hc : Chg S w w') (hn : ¬ S g) : FRow w' g l cap :=
  ⟨h.at_.chg hc hn, fun j hj => by rw [hc.cell (p := ⟨g, j, none⟩) h.lt hn]; exact h.there j hj, fun j => by rw [hc.frozen (p := ⟨g, j, none⟩) h.lt hn]; exact h.free j, h.le, Nat.lt_of_lt_of_le h.lt hc.size, h.max⟩

theorem FRow.put {w : World} {g cap : Nat} {l : List Fe} (h : FRow w g l cap) {k : Nat} (hk : k < l.length) (x : Fe) :
    FRow ((w.setCell ⟨g, k * 2, none⟩ (.int .i64 x.a)).setCell ⟨g, k * 2 + 1, none⟩ (.int .i64 x.b)) g (l.set k x) cap := by
  have hle := h.le
  obtain ⟨u0, hu0⟩ := Option.isSome_iff_exists.1 (h.there (k * 2) (by omega))
  obtain ⟨u1, hu1⟩ := Option.isSome_iff_exists.1 (h.there (k * 2 + 1) (by omega))
  refine ⟨fun j hj => ?_, fun j hj => ?_, fun j => ?_, by simpa using h.le, by simpa [World.setCell] using h.lt, h.max⟩
  · simp at hj
    rw [List.getElem_set]
    by_cases hkj : k = j
    · subst hkj
      simp only [if_pos]
      constructor
      · rw [World.cell?_setCell_other _ _ _ _ (by simp), Nat.zero_add]; exact World.cell?_setCell_same _ _ _ hu0
      · rw [Nat.zero_add]
        exact World.cell?_setCell_same _ _ _ (by rw [World.cell?_setCell_other _ _ _ _ (by simp)]; exact hu1)
    · rw [if_neg hkj]
      obtain ⟨c0, c1⟩ := h.at_ j hj
      constructor
      · rw [World.cell?_setCell_other _ _ _ _ (by intro e; simp at e <;> omega), World.cell?_setCell_other _ _ _ _ (by intro e; simp at e <;> omega)]; exact c0
      · rw [World.cell?_setCell_other _ _ _ _ (by intro e; simp at e <;> omega), World.cell?_setCell_other _ _ _ _ (by intro e; simp at e <;> omega)]; exact c1
  · exact some_setCells (o := k * 2) (vs := [.int .i64 x.a, .int .i64 x.b]) (h.there j hj)
  · rw [World.frozen?_setCell, World.frozen?_setCell]; exact h.free j

theorem set_mid {α : Type} (A : List α) (y : α) (B : List α) (x : α) : (A ++ y :: B).set A.length x = A ++ x :: B := by
  induction A with
  | nil => rfl
  | cons a A ih => simp [ih]

set_option maxRecDepth 100000 in
set_option maxHeartbeats 1000000 in
theorem closed_any (f : Fe) (r : List Fe) (b off cap : Nat) (w : World) (hs : FencesAt w b off (f :: r)) (hr : r.length ≤ 100) :
    Calls Try.prog 49 #[.slice (some ⟨b, off, none⟩) (r.length + 1) cap, .int .i64 0] w fun e w' => ∃ g c, e = .returned (.slice (some ⟨g, 0, none⟩) r.length c) ∧ w.heap.size ≤ g ∧ FRow w' g (r.map (closeFe f)) c ∧ Chg (fun _ => False) w w' := by
  obtain ⟨c0, c1⟩ := hs 0 (by simp)
  simp at c0 c1
  obtain ⟨bf, hbf⟩ : ∃ bf, w.heap.size = bf := ⟨_, rfl⟩
  have hB := Blk.new w #[.int .i64 f.a, .int .i64 f.b] 24
  rw [hbf] at hB
  have HB := Lib.hid hB
  have HC0 := Lib.hid ((Chg.refl (fun _ => False) w).alloc (.cells #[.int .i64 f.a, .int .i64 f.b] 24))
  have hbl := World.cell_lt c0
  have HS := Lib.hid hs
  have HBF := Lib.hid hbf
  clear hs hB
  go_enter Try.func49, Try.ntmps49
  go_wp2_with fail
  clear hbf c0 c1
  generalize w.alloc (.cells #[.int .i64 f.a, .int .i64 f.b] 24) = W at HB HC0 ⊢
  refine (without_any f r b off cap W (HS.out.chg HC0.out (fun x => x)) hr).mono ?_
  rintro e W1 ⟨g, c, rfl, hg, hF, hc1⟩
  have hgb : bf < g := by have := HB.out.lt; omega
  have HB1 := Lib.hid (hc1.blk HB.out (fun x => x)); have HC1 := Lib.hid (HC0.out.trans hc1 (fun _ x => x.elim)); have HF1 := Lib.hid hF
  have hgw : w.heap.size ≤ g := by have := HBF.out; omega
  clear hF hc1 hg
  go_wp2_with fail
  go_loopg [18] r.length (fun gm iv wr => ∃ k : Nat, k ≤ r.length ∧ gm = r.length - k ∧ iv = .int .i64 k ∧ FRow wr g ((r.take k).map (closeFe f) ++ r.drop k) c ∧ Blk wr bf 24 [.int .i64 f.a, .int .i64 f.b] ∧ Chg (fun _ => False) w wr)
  case atStart => exact ⟨0, by omega, by omega, rfl, by simpa using HF1.out, HB1.out, HC1.out⟩
  case round =>
    clear HB HC0 HB1 HC1 HF1
    obtain ⟨k, hk, rfl, rfl, hF, hB, hc⟩ := hrel
    have HF := Lib.hid hF; have HB := Lib.hid hB; have HC := Lib.hid hc
    clear hF hB hc
    by_cases hlt : k < r.length
    · have hll : ((r.take k).map (closeFe f) ++ r.drop k).length = r.length := by simp; omega
      have hke : ((r.take k).map (closeFe f) ++ r.drop k)[k]'(by omega) = r[k] := by
        rw [List.getElem_append_right (by simp; omega)]
        simp [show min k r.length = k by omega]
      obtain ⟨c0, c1⟩ := HF.out.at_ k (by omega)
      rw [hke, Nat.zero_add] at c0 c1
      have HSET : Hid (∀ x, x = closeFe f r[k] → ((r.take k).map (closeFe f) ++ r.drop k).set k x = (r.take (k + 1)).map (closeFe f) ++ r.drop (k + 1)) := Lib.hid (fun x hx => by
        subst hx
        have hA : ((r.take k).map (closeFe f)).length = k := by simp; omega
        have := set_mid ((r.take k).map (closeFe f)) r[k] (r.drop (k + 1)) (closeFe f r[k])
        rw [hA] at this
        rw [List.drop_eq_getElem_cons hlt, this, List.take_succ_eq_append_getElem hlt, List.map_append, List.append_assoc]
        rfl)
      obtain ⟨x, hx⟩ : ∃ x, r[k] = x := ⟨_, rfl⟩
      rw [hx] at c0 c1
      have HXX := Lib.hid hx
      clear hx hke hll
      have q0 := HB.out.cell_some (i := 0) rfl
      have q1 := HB.out.cell_some (i := 1) rfl
      have hbl2 := HB.out.lt
      have hgl := HF.out.lt
      have f0 := HF.out.free (k * 2); have f1 := HF.out.free (k * 2 + 1)
      by_cases h1 : x.a = f.b
      · have d1 : (x.a == f.b) = true := by simpa using h1
        by_cases h2 : x.b = f.b
        · have d2 : (x.b == f.b) = true := by simpa using h2
          have HH := Lib.hid (show closeFe f x = ⟨f.a, f.a⟩ by unfold closeFe; rw [if_pos h1, if_pos h2])
          clear h1 h2
          go_wp2_with fail
          go_roundg (r.length - (k + 1))
          case measure => omega
          case rel =>
            have hput := HF.out.put (k := k) (by simp; omega) (closeFe f x)
            rw [HSET.out (closeFe f x) (by rw [HXX.out]), HH.out] at hput
            have hcs : Chg (fun b => b = g) wr ((wr.setCell ⟨g, k * 2, none⟩ (.int .i64 f.a)).setCell ⟨g, k * 2 + 1, none⟩ (.int .i64 f.a)) :=
              ((Chg.refl (fun b => b = g) wr).setCell (a := ⟨g, k * 2, none⟩) (.inl rfl) _).setCell (a := ⟨g, k * 2 + 1, none⟩) (.inl rfl) _
            exact ⟨k + 1, by omega, rfl, by go_num, hput.chg ((Chg.refl (fun _ => False) _).alloc _) (fun x => x), (hcs.blk HB.out (by omega)).alloc _, (HC.out.trans hcs (fun b e => .inr (by omega))).alloc _⟩
        · have d2 : (x.b == f.b) = false := by simpa using h2
          have HH := Lib.hid (show closeFe f x = ⟨f.a, x.b⟩ by unfold closeFe; rw [if_pos h1, if_neg h2])
          clear h1 h2
          go_wp2_with fail
          go_roundg (r.length - (k + 1))
          case measure => omega
          case rel =>
            have hput := HF.out.put (k := k) (by simp; omega) (closeFe f x)
            rw [HSET.out (closeFe f x) (by rw [HXX.out]), HH.out] at hput
            have hcs : Chg (fun b => b = g) wr ((wr.setCell ⟨g, k * 2, none⟩ (.int .i64 f.a)).setCell ⟨g, k * 2 + 1, none⟩ (.int .i64 x.b)) :=
              ((Chg.refl (fun b => b = g) wr).setCell (a := ⟨g, k * 2, none⟩) (.inl rfl) _).setCell (a := ⟨g, k * 2 + 1, none⟩) (.inl rfl) _
            exact ⟨k + 1, by omega, rfl, by go_num, hput.chg ((Chg.refl (fun _ => False) _).alloc _) (fun x => x), (hcs.blk HB.out (by omega)).alloc _, (HC.out.trans hcs (fun b e => .inr (by omega))).alloc _⟩
      · have d1 : (x.a == f.b) = false := by simpa using h1
        by_cases h2 : x.b = f.b
        · have d2 : (x.b == f.b) = true := by simpa using h2
          have HH := Lib.hid (show closeFe f x = ⟨x.a, f.a⟩ by unfold closeFe; rw [if_neg h1, if_pos h2])
          clear h1 h2
          go_wp2_with fail
          go_roundg (r.length - (k + 1))
          case measure => omega
          case rel =>
            have hput := HF.out.put (k := k) (by simp; omega) (closeFe f x)
            rw [HSET.out (closeFe f x) (by rw [HXX.out]), HH.out] at hput
            have hcs : Chg (fun b => b = g) wr ((wr.setCell ⟨g, k * 2, none⟩ (.int .i64 x.a)).setCell ⟨g, k * 2 + 1, none⟩ (.int .i64 f.a)) :=
              ((Chg.refl (fun b => b = g) wr).setCell (a := ⟨g, k * 2, none⟩) (.inl rfl) _).setCell (a := ⟨g, k * 2 + 1, none⟩) (.inl rfl) _
            exact ⟨k + 1, by omega, rfl, by go_num, hput.chg ((Chg.refl (fun _ => False) _).alloc _) (fun x => x), (hcs.blk HB.out (by omega)).alloc _, (HC.out.trans hcs (fun b e => .inr (by omega))).alloc _⟩
        · have d2 : (x.b == f.b) = false := by simpa using h2
          have HH := Lib.hid (show closeFe f x = ⟨x.a, x.b⟩ by unfold closeFe; rw [if_neg h1, if_neg h2])
          clear h1 h2
          go_wp2_with fail
          go_roundg (r.length - (k + 1))
          case measure => omega
          case rel =>
            have hput := HF.out.put (k := k) (by simp; omega) (closeFe f x)
            rw [HSET.out (closeFe f x) (by rw [HXX.out]), HH.out] at hput
            have hcs : Chg (fun b => b = g) wr ((wr.setCell ⟨g, k * 2, none⟩ (.int .i64 x.a)).setCell ⟨g, k * 2 + 1, none⟩ (.int .i64 x.b)) :=
              ((Chg.refl (fun b => b = g) wr).setCell (a := ⟨g, k * 2, none⟩) (.inl rfl) _).setCell (a := ⟨g, k * 2 + 1, none⟩) (.inl rfl) _
            exact ⟨k + 1, by omega, rfl, by go_num, hput.chg ((Chg.refl (fun _ => False) _).alloc _) (fun x => x), (hcs.blk HB.out (by omega)).alloc _, (HC.out.trans hcs (fun b e => .inr (by omega))).alloc _⟩
    · obtain rfl : k = r.length := by omega
      have hF := HF.out
      rw [List.take_length, List.drop_length, List.append_nil] at hF
      have HFF := Lib.hid hF
      clear hF
      go_wp2_with fail
      go_ret
      exact ⟨g, c, rfl, hgw, HFF.out, HC.out⟩
end Go.Proofs.Ytmmpdfcnenljhaa
