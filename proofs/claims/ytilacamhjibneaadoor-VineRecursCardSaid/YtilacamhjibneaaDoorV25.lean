/- Bytes of the call's own that grow by strings; the first letters of the endless shoot of a bud, walked. Their conditions are their premises. -/
import Derived.Test.YtilacamhjibneaaDoorV24
import Derived.Lib.AppendStr
set_option linter.unusedVariables false
namespace Go
/-- n bytes from the block's first cell on, with room up to c. -/
structure QueC (w : World) (g c n : Nat) (cs : List Value) : Prop where
  lt : g < w.heap.size
  le : n ≤ c
  len : cs.length = n
  at_ : ∀ j u, cs[j]? = some u → w.cell? ⟨g, j, none⟩ = some u
  there : ∀ j, j < c → (w.cell? ⟨g, j, none⟩).isSome = true
  free : ∀ j, j < c → w.frozen? ⟨g, j, none⟩ = false
theorem QueC.chg {S : Nat → Prop} {w w' : World} {g c n : Nat} {cs : List Value} (h : QueC w g c n cs) (hc : Chg S w w') (hn : ¬ S g) : QueC w' g c n cs :=
  ⟨Nat.lt_of_lt_of_le h.lt hc.size, h.le, h.len, fun j u hj => hc.cell_some (h.at_ j u hj) hn, fun j hj => by rw [hc.cell (p := ⟨g, j, none⟩) h.lt hn]; exact h.there j hj, fun j hj => by rw [hc.frozen (p := ⟨g, j, none⟩) h.lt hn]; exact h.free j hj⟩
section
variable {P : Program}
theorem run_append_str (w : World) (t u ty e : TypeId) (i : TypeInfo) (ht : P.underlying t = some (.slice e)) (hu : P.underlying u = some .string) (hi : P.info? e = some i) (hz : i.zero = some (.int .u8 0)) (hsize : i.size = 1) (hby : i.bytes = 1)
    (g c n : Nat) (xs : List Value) (hq : QueC w g c n xs) (s : ByteArray) (h63 : n + s.size ≤ maxLen) (hbytes : n + s.size ≤ 140737488355328) :
    ∃ g' c' w', (Builtin.append_ #[t, u] ty #[.slice (some ⟨g, 0, none⟩) n c, .string s]).run P w = .ok (.slice (some ⟨g', 0, none⟩) (n + s.size) c') w' ∧ QueC w' g' c' (n + s.size) (xs ++ Lib.strCells s) ∧
      (g' = g ∨ w.heap.size ≤ g') ∧ Chg (fun k => k = g) w w' := by
  have hlen : (xs ++ Lib.strCells s).length = n + s.size := by rw [List.length_append, hq.len, Lib.strCells_length]
  by_cases hroom : n + s.size ≤ c
  · have hthere : ∀ j, j < (Lib.strCells s).length → (w.cell? ⟨g, n + j, none⟩).isSome = true := fun j hj => by
      rw [Lib.strCells_length] at hj
      exact hq.there _ (by omega)
    have hf := Lib.run_firstCells_string (P := P) w 1 s
    have hst := run_storeCells_cells (P := P) g n (Lib.strCells s) 0 w (by simpa using hthere) (fun j hj => by rw [Lib.strCells_length] at hj; exact hq.free _ (by omega)) (Lib.strCells_oneCell s)
    simp only [Nat.add_zero] at hst
    refine ⟨g, c, w.setCells g n (Lib.strCells s), ?_, ⟨?_, hroom, hlen, fun j u hj => ?_, fun j hj => World.isSome_setCells g _ _ w _ (hq.there j hj), fun j hj => ?_⟩, .inl rfl, (Chg.refl (fun k => k = g) w).setCells (.inl rfl) _ _⟩
    · simp [Builtin.append_, run_underlying ht, run_underlying hu, sizeOf, typeInfo, hi, hsize, Builtin.lenOf, hroom, hf, Addr.add_lit, hst]
    · exact Nat.lt_of_lt_of_le hq.lt ((Chg.refl (fun k => k = g) w).setCells (.inl rfl) (Lib.strCells s) n).size
    · by_cases hx : j < xs.length
      · rw [List.getElem?_append_left hx] at hj
        rw [World.cell?_setCells_out g _ _ w ⟨g, j, none⟩ (fun _ _ => .inl (by show j < n; have := hq.len; omega))]
        exact hq.at_ j u hj
      · rw [List.getElem?_append_right (by omega)] at hj
        have hjl : j - xs.length < (Lib.strCells s).length := (List.getElem?_eq_some_iff.1 hj).1
        have := World.cell?_setCells_in g (Lib.strCells s) n w hthere (j - xs.length) hjl
        rw [show n + (j - xs.length) = j by have := hq.len; omega] at this
        rw [this]
        rw [List.getElem?_eq_getElem hjl] at hj
        exact hj
    · rw [World.frozen?_setCells]
      exact hq.free j hj
  · have hsm : n + s.size ≤ 9223372036854775807 := by simp only [maxLen] at h63; omega
    have hr := Lib.run_append_grow_string (P := P) w t u ty e i (.int .u8 0) ht hu hi hz ⟨g, 0, none⟩ n c xs (by rw [hsize, Nat.mul_one]; exact hq.len) (fun j v hj => by rw [Go.Proofs.YtilacamhjibneaaDoor.add_plain, Nat.zero_add]; exact hq.at_ j v hj) s (by omega) (by omega) (by rw [hby]; exact growslice_fits (by omega) (by omega))
    have hge := grownCap_ge w (n + s.size) c e
    obtain ⟨C, hC⟩ : ∃ C, grownCap w (n + s.size) c e = C := ⟨_, rfl⟩
    rw [hC] at hr hge
    have hz1 : (Value.int IntKind.u8 0).cells.size = 1 := rfl
    obtain ⟨arr, harr⟩ : ∃ arr, xs.toArray ++ (Lib.strCells s).toArray ++ Builtin.zeroCells (Value.int .u8 0).cells (C - (n + s.size)) = arr := ⟨_, rfl⟩
    have hsz : arr.size = C := by
      rw [← harr]
      simp only [Array.size_append, List.size_toArray, size_zeroCells, hz1, hq.len, Lib.strCells_length]
      omega
    rw [harr] at hr
    have hh : (w.drew.alloc (.cells arr e)).heap[w.heap.size]? = some (.cells arr e (0, 0)) := heap_alloc_new w.drew _
    refine ⟨w.heap.size, C, _, hr, ⟨?_, hge, hlen, fun j u hj => ?_, fun j hj => ?_, fun j hj => ?_⟩, .inr (Nat.le_refl _), ((Chg.refl _ w).drew).alloc _⟩
    · exact (Array.getElem?_eq_some_iff.1 hh).1
    · have hjl : j < (xs ++ Lib.strCells s).length := (List.getElem?_eq_some_iff.1 hj).1
      have ha : arr[j]? = some u := by
        rw [← harr, Array.getElem?_append_left (by simpa using hjl)]
        rw [← hj]
        simp
      unfold World.cell?
      rw [hh]
      simpa using ha
    · unfold World.cell?
      rw [hh]
      simp
      omega
    · unfold World.frozen?
      rw [hh]
      simp
theorem wpList_append_str {w : World} {ops : Array Oper} {rest : List Oper} {o : Oper} {a : Act} {Q : Exit → Act → World → Prop} (hgd : o.guard = none) (sl x : Operand) (t u : TypeId)
    (ho : o.op = .call { callee := .builtin .append, args := #[sl, x], argTypes := #[t, u] })
    (e : TypeId) (i : TypeInfo) (ht : P.underlying t = some (.slice e)) (hu : P.underlying u = some .string) (hi : P.info? e = some i) (hz : i.zero = some (.int .u8 0)) (hsize : i.size = 1) (hby : i.bytes = 1)
    (g c n : Nat) (xs : List Value) (hs : a.eval sl = .slice (some ⟨g, 0, none⟩) n c) (hq : QueC w g c n xs) (s : ByteArray) (hx : a.eval x = .string s) (h63 : n + s.size ≤ maxLen) (hbytes : n + s.size ≤ 140737488355328)
    (h : ∀ g' c' w', QueC w' g' c' (n + s.size) (xs ++ Lib.strCells s) → (g' = g ∨ w.heap.size ≤ g') → Chg (fun k => k = g) w w' → wpList P ops Q rest (a.put o.dst (.slice (some ⟨g', 0, none⟩) (n + s.size) c')) w') : wpList P ops Q (o :: rest) a w := by
  refine wpList_step fun K hK => ?_
  rw [if_pos (by simp [Region.wanted, hgd])]
  obtain ⟨g', c', w', hrun, r1, r2, r3⟩ := run_append_str (P := P) w t u o.type e i ht hu hi hz hsize hby g c n xs hq s h63 hbytes
  unfold Oper.wp
  simp [execOp, ho, resolve, invoke, builtin, hs, hx, hrun, Result.andThen]
  exact hK _ _ (h g' c' w' r1 r2 r3)
end
end Go
namespace Go.Proofs.YtilacamhjibneaaDoor
open Go.RowKit
def u8V (l : List Nat) : List Value := l.map fun c => .int .u8 ((97 + c : Nat) : Int)
theorem strCells_str {t : List Nat} (ht : ∀ c ∈ t, c < 100) : Lib.strCells (str t) = u8V t := by
  unfold Lib.strCells u8V str
  simp only [List.map_map]
  refine List.map_congr_left (fun c hc => ?_)
  have := ht c hc
  simp [chr]
  omega
theorem conv_que (t : List Nat) (ht : ∀ c ∈ t, c < 100) (w : World) : ∃ c w', (convert 9 52 (.string (str t))).run Tryd.prog w = .ok (.slice (some ⟨w.heap.size, 0, none⟩) t.length c) w' ∧
    QueC w' w.heap.size c t.length (u8V t) ∧ Chg (fun _ => False) w w' := by
  have h := run_bytes_of_string (P := Tryd.prog) w 9 52 5 (str t) Tryd.underlying9 Tryd.underlying52 Tryd.underlying5
  rw [str_size] at h
  have hge := grownCap_ge w t.length 0 5
  obtain ⟨C, hC⟩ : ∃ C, grownCap w t.length 0 5 = C := ⟨_, rfl⟩
  rw [hC] at h hge
  have hsz : (bytesRow (str t) C).size = C := by
    unfold bytesRow
    rw [str_size]
    simp [str]
    omega
  obtain ⟨arr, harr⟩ : ∃ arr, bytesRow (str t) C = arr := ⟨_, rfl⟩
  rw [harr] at h hsz
  have hh : ∀ o : Obj, (w.drew.alloc o).heap[w.heap.size]? = some o := fun o => by
    show (w.heap.push o)[w.heap.size]? = _
    simp
  refine ⟨C, _, h, ⟨?_, hge, by simp [u8V], fun j u hj => ?_, fun j hj => ?_, fun j hj => ?_⟩, ((Chg.refl _ w).drew).alloc _⟩
  · exact (Array.getElem?_eq_some_iff.1 (hh _)).1
  · have hjl : j < t.length := by have := (List.getElem?_eq_some_iff.1 hj).1; simpa [u8V] using this
    have ha : arr[j]? = some u := by
      rw [← harr]
      unfold bytesRow
      rw [Array.getElem?_append_left (by simp [str]; exact hjl), ← hj, ← strCells_str ht]
      simp [Lib.strCells]
    unfold World.cell?
    rw [hh]
    simpa using ha
  · unfold World.cell?
    rw [hh]
    simp
    omega
  · unfold World.frozen?
    rw [hh]
    simp
    omega
end Go.Proofs.YtilacamhjibneaaDoor
