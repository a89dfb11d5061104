/- Texts on the vines, laid together (V97, V98, V99, V105). Their conditions are their premises. -/
import Derived.Test.YtilacamhjibneaaDoorK3
import Derived.Test.YtilacamhjibneaaDoorK6
import Derived.Test.YtilacamhjibneaaDoorK11
set_option linter.unusedVariables false
/- Sorted numbers: merging, runs; numbers of the letters' strings. Plain facts. Their conditions are their premises. -/
namespace Go.Proofs.YtilacamhjibneaaDoor
open Go.RowKit

def Srt (l : List Nat) : Prop := l.Pairwise (· ≤ ·)
theorem Srt.le {l : List Nat} (h : Srt l) {i j : Nat} (hij : i ≤ j) (hj : j < l.length) : l[i]'(by omega) ≤ l[j] := by
  rcases Nat.lt_or_ge i j with h1 | h1
  · exact (List.pairwise_iff_getElem.1 h) i j (by omega) hj h1
  · obtain rfl : i = j := by omega
    exact Nat.le_refl _
theorem Srt.snoc {l : List Nat} (h : Srt l) {x : Nat} (hx : ∀ y ∈ l, y ≤ x) : Srt (l ++ [x]) := by
  unfold Srt
  rw [List.pairwise_append]
  refine ⟨h, by simp, fun a ha b hb => ?_⟩
  simp at hb
  subst hb
  exact hx a ha
/-- Where a merge stands: i of a and k of b are in the list o. -/
structure Mrg (a b : List Nat) (i k : Nat) (o : List Nat) : Prop where
  srt : Srt o
  len : o.length = i + k
  mem : ∀ x, x ∈ o ↔ x ∈ a.take i ∨ x ∈ b.take k
  ha : i ≤ a.length
  hb : k ≤ b.length
  lea : ∀ y ∈ o, ∀ h : i < a.length, y ≤ a[i]
  leb : ∀ y ∈ o, ∀ h : k < b.length, y ≤ b[k]
theorem Mrg.start (a b : List Nat) : Mrg a b 0 0 [] := ⟨by simp [Srt], rfl, by simp, Nat.zero_le _, Nat.zero_le _, by simp, by simp⟩
theorem Mrg.left {a b o : List Nat} {i k : Nat} (h : Mrg a b i k o) (ha : Srt a) (hb : Srt b) (hi : i < a.length) (hc : ∀ hk : k < b.length, a[i] ≤ b[k]) : Mrg a b (i + 1) k (o ++ [a[i]]) := by
  refine ⟨h.srt.snoc (fun y hy => h.lea y hy hi), by simp [h.len]; omega, fun x => ?_, by omega, h.hb, fun y hy hl => ?_, fun y hy hl => ?_⟩
  · rw [List.take_succ_eq_append_getElem hi, List.mem_append, List.mem_append, h.mem]
    constructor
    · rintro ((h1 | h1) | h1)
      · exact .inl (.inl h1)
      · exact .inr h1
      · exact .inl (.inr h1)
    · rintro ((h1 | h1) | h1)
      · exact .inl (.inl h1)
      · exact .inr h1
      · exact .inl (.inr h1)
  · rcases List.mem_append.1 hy with h1 | h1
    · exact Nat.le_trans (h.lea y h1 hi) (ha.le (Nat.le_succ i) hl)
    · simp at h1; subst h1; exact ha.le (Nat.le_succ i) hl
  · rcases List.mem_append.1 hy with h1 | h1
    · exact h.leb y h1 hl
    · simp at h1; subst h1; exact hc hl
theorem Mrg.right {a b o : List Nat} {i k : Nat} (h : Mrg a b i k o) (ha : Srt a) (hb : Srt b) (hk : k < b.length) (hc : ∀ hi : i < a.length, b[k] ≤ a[i]) : Mrg a b i (k + 1) (o ++ [b[k]]) := by
  refine ⟨h.srt.snoc (fun y hy => h.leb y hy hk), by simp [h.len]; omega, fun x => ?_, h.ha, by omega, fun y hy hl => ?_, fun y hy hl => ?_⟩
  · rw [List.take_succ_eq_append_getElem hk, List.mem_append, List.mem_append, h.mem]
    constructor
    · rintro ((h1 | h1) | h1)
      · exact .inl h1
      · exact .inr (.inl h1)
      · exact .inr (.inr h1)
    · rintro (h1 | (h1 | h1))
      · exact .inl (.inl h1)
      · exact .inl (.inr h1)
      · exact .inr h1
  · rcases List.mem_append.1 hy with h1 | h1
    · exact h.lea y h1 hl
    · simp at h1; subst h1; exact hc hl
  · rcases List.mem_append.1 hy with h1 | h1
    · exact Nat.le_trans (h.leb y h1 hk) (hb.le (Nat.le_succ k) hl)
    · simp at h1; subst h1; exact hb.le (Nat.le_succ k) hl
theorem Mrg.full {a b o : List Nat} (h : Mrg a b a.length b.length o) : Srt o ∧ o.length = a.length + b.length ∧ ∀ x, x ∈ o ↔ x ∈ a ∨ x ∈ b := ⟨h.srt, h.len, fun x => by rw [h.mem, List.take_length, List.take_length]⟩
/-- How often a number differs from the one before it, up to place k; and one. -/
def runs (l : List Nat) : Nat → Nat
  | 0 => 1
  | 1 => 1
  | k + 2 => runs l (k + 1) + if l[k + 1]? = l[k]? then 0 else 1
theorem runs_le (l : List Nat) : ∀ k, runs l k ≤ k + 1
  | 0 => by simp [runs]
  | 1 => by simp [runs]
  | k + 2 => by
    have := runs_le l (k + 1)
    rw [runs]
    split <;> omega
/-- The numbers of a sorted list, each once: as many as its runs. -/
theorem runs_nodup {l : List Nat} (h : Srt l) : ∀ k, 1 ≤ k → k ≤ l.length → ∃ m : List Nat, m.Nodup ∧ m.length = runs l k ∧ ∀ x, x ∈ m ↔ x ∈ l.take k
  | 0, h1, _ => by omega
  | 1, _, h2 => by
    obtain ⟨x, t, rfl⟩ : ∃ x t, l = x :: t := by
      cases l with
      | nil => simp at h2
      | cons x t => exact ⟨x, t, rfl⟩
    exact ⟨[x], by simp, rfl, by simp⟩
  | k + 2, _, h2 => by
    obtain ⟨m, m1, m2, m3⟩ := runs_nodup h (k + 1) (by omega) (by omega)
    have hk1 : k + 1 < l.length := by omega
    have ht := List.take_succ_eq_append_getElem hk1
    rw [runs, List.getElem?_eq_getElem hk1, List.getElem?_eq_getElem (show k < l.length by omega)]
    by_cases he : l[k + 1] = l[k]
    · refine ⟨m, m1, by rw [if_pos (by rw [he])]; exact m2, fun x => ?_⟩
      rw [ht, List.mem_append, ← m3]
      constructor
      · exact .inl
      · rintro (h1 | h1)
        · exact h1
        · simp at h1
          subst h1
          rw [m3, he]
          exact List.mem_take_iff_getElem.2 ⟨k, by omega, rfl⟩
    · refine ⟨m ++ [l[k + 1]], ?_, by rw [if_neg (by simpa using he), List.length_append, m2]; rfl, fun x => by rw [ht, List.mem_append, List.mem_append, m3]⟩
      rw [List.nodup_append]
      refine ⟨m1, by simp, fun a ha b hb => ?_⟩
      simp at hb
      subst hb
      rintro rfl
      rw [m3] at ha
      obtain ⟨j, hj, e⟩ := List.mem_take_iff_getElem.1 ha
      have h3 := h.le (show j ≤ k by omega) (by omega)
      have h4 := h.le (show k ≤ k + 1 by omega) hk1
      omega
/-- The number of a string of letters. -/
def cod (x : List Nat) : Nat := x.foldl (fun n c => n * 6 + c) 0
theorem cod_snoc (x : List Nat) (c : Nat) : cod (x ++ [c]) = cod x * 6 + c := by simp [cod]
theorem cod_inj : ∀ (n : Nat) (x y : List Nat), x.length = n → y.length = n → (∀ c ∈ x, c < 6) → (∀ c ∈ y, c < 6) → cod x = cod y → x = y
  | 0, x, y, hx, hy, _, _, _ => by rw [List.eq_nil_of_length_eq_zero hx, List.eq_nil_of_length_eq_zero hy]
  | n + 1, x, y, hx, hy, h1, h2, he => by
    have hxn : x ≠ [] := by intro e; rw [e] at hx; simp at hx
    have hyn : y ≠ [] := by intro e; rw [e] at hy; simp at hy
    rw [← List.dropLast_concat_getLast hxn, ← List.dropLast_concat_getLast hyn] at he ⊢
    rw [cod_snoc, cod_snoc] at he
    have l1 := h1 _ (List.getLast_mem hxn)
    have l2 := h2 _ (List.getLast_mem hyn)
    have e1 : x.getLast hxn = y.getLast hyn := by omega
    have e2 : cod x.dropLast = cod y.dropLast := by omega
    rw [cod_inj n x.dropLast y.dropLast (by rw [List.length_dropLast]; omega) (by rw [List.length_dropLast]; omega) (fun c hc => h1 c ((List.dropLast_sublist _).mem hc)) (fun c hc => h2 c ((List.dropLast_sublist _).mem hc)) e2, e1]
theorem cod_lt : ∀ (n : Nat) (x : List Nat), x.length = n → (∀ c ∈ x, c < 6) → cod x < 6 ^ n
  | 0, x, hx, _ => by rw [List.eq_nil_of_length_eq_zero hx]; simp [cod]
  | n + 1, x, hx, h1 => by
    have hxn : x ≠ [] := by intro e; rw [e] at hx; simp at hx
    rw [← List.dropLast_concat_getLast hxn, cod_snoc, Nat.pow_succ]
    have l1 := h1 _ (List.getLast_mem hxn)
    have := cod_lt n x.dropLast (by rw [List.length_dropLast]; omega) (fun c hc => h1 c ((List.dropLast_sublist _).mem hc))
    omega
theorem nodup_len_eq {α : Type} [DecidableEq α] {l m : List α} (h1 : l.Nodup) (h2 : m.Nodup) (h : ∀ x, x ∈ l ↔ x ∈ m) : l.length = m.length :=
  Nat.le_antisymm (nodup_len l m h1 (fun x hx => (h x).1 hx)) (nodup_len m l h2 (fun x hx => (h x).2 hx))
/-- The runs of the sorted numbers of the windows are as many as the windows that differ. -/
theorem runs_fac {l : List Nat} {n : Nat} (hn : n ≤ l.length) (hl : ∀ c ∈ l, c < 6) {r : List Nat} (hs : Srt r) (hr : r.length = l.length + 1 - n) (hm : ∀ x, x ∈ r ↔ x ∈ (win l n (l.length + 1 - n)).map fun y => cod y) :
    runs r r.length = facV l n := by
  obtain ⟨m, m1, m2, m3⟩ := runs_nodup hs r.length (by omega) (Nat.le_refl _)
  rw [List.take_length] at m3
  unfold facV
  obtain ⟨d1, d2⟩ := dis_inv _ (win l n (l.length + 1 - n)) rfl
  rw [← m2]
  refine (nodup_len_eq (m := (dis (win l n (l.length + 1 - n))).map fun y => cod y) m1 ?_ (fun x => ?_)).trans (by rw [List.length_map])
  · have hw : ∀ y ∈ dis (win l n (l.length + 1 - n)), y.length = n ∧ ∀ c ∈ y, c < 6 := by
      intro y hy
      rw [d2] at hy
      unfold win at hy
      obtain ⟨p, hp, rfl⟩ := List.mem_map.1 hy
      have hp := List.mem_range.1 hp
      refine ⟨by rw [List.length_take, List.length_drop]; omega, fun c hc => hl c (List.mem_of_mem_drop (List.mem_of_mem_take hc))⟩
    generalize dis (win l n (l.length + 1 - n)) = D at d1 hw
    clear d2
    induction D with
    | nil => simp
    | cons y D ih =>
      rw [List.map_cons, List.nodup_cons]
      rw [List.nodup_cons] at d1
      refine ⟨fun hc => ?_, ih d1.2 (fun z hz => hw z (by simp [hz]))⟩
      obtain ⟨z, hz, e⟩ := List.mem_map.1 hc
      have h1 := hw z (by simp [hz])
      have h2 := hw y (by simp)
      have : z = y := cod_inj n z y h1.1 h2.1 h1.2 h2.2 (by omega)
      subst this
      exact d1.1 hz
  · rw [m3, hm, List.mem_map, List.mem_map]
    constructor
    · rintro ⟨y, hy, e⟩; exact ⟨y, (d2 y).2 hy, e⟩
    · rintro ⟨y, hy, e⟩; exact ⟨y, (d2 y).1 hy, e⟩
end Go.Proofs.YtilacamhjibneaaDoor

/- sorted, walked. Its conditions are its premises. -/
namespace Go.Proofs.YtilacamhjibneaaDoor
open Go.RowKit

/-- A slice of numbers that are not none. -/
def SlZ (w : World) (v : Value) (Y : List Nat) : Prop := ∃ g off c, v = .slice (some ⟨g, off, none⟩) Y.length c ∧ Y.length ≤ c ∧ NatsAt w g off Y
def SrtR (X : List Nat) (w : World) (e : Ending) (w' : World) : Prop := (∃ v Y, e = .returned v ∧ SlZ w' v Y ∧ Srt Y ∧ Y.length = X.length ∧ ∀ x, x ∈ Y ↔ x ∈ X) ∧ Chg (fun _ => False) w w'
theorem SlZ.chg {w w' : World} {v : Value} {Y : List Nat} (h : SlZ w v Y) (hc : Chg (fun _ => False) w w') : SlZ w' v Y := by
  obtain ⟨g, off, c, h1, h2, h3⟩ := h
  exact ⟨g, off, c, h1, h2, h3.chg hc (fun x => x)⟩

/-- One number behind a slice of the call's own, in a region that draws its order. -/
theorem step_app {w : World} {ops : Array Oper} {o : Oper} {a : Act} {K : Act → World → Prop} {Q : Exit → Act → World → Prop} {E : Prop} (hgd : o.guard = none) (sl x : Operand)
    (ho : o.op = .call { callee := .builtin .append, args := #[sl, x], argTypes := #[29, 29] }) (base : Nat) (v : Value) (l : List Nat) (y : Nat) (hs : a.eval sl = v) (hown : w.ownsRow base 3 1 v l.length (nv l))
    (g off c : Nat) (hx : a.eval x = .slice (some ⟨g, off, none⟩) 1 c) (hsrc : w.cell? ⟨g, off, none⟩ = some (.int .i64 (y : Int))) (hl : l.length + 1 ≤ 100000) (hb : base ≤ w.heap.size)
    (hK : ∀ v' w', w'.ownsRow base 3 1 v' (l ++ [y]).length (nv (l ++ [y])) → Chg (fun k => base ≤ k) w w' → K (a.put o.dst v') w') : if Region.wanted o (yielded ops a.tmps) = true then Oper.wp Tryd.prog o a w K Q else E := by
  obtain ⟨i0, h0, h1, h2, h3⟩ := info_parts info3
  refine step_append_two hgd sl x 29 ho base 3 i0 _ 1 8 Tryd.underlying29 h0 h1 h2 h3 rfl (by decide) v l.length (nv l) hs hown ⟨g, off, none⟩ 1 c [.int .i64 (y : Int)] hx rfl ?_ ?_ (by unfold maxLen; omega) (by omega) hb ?_
  · intro j u hj
    match j, hj with
    | 0, hj => simp at hj; subst hj; rw [add_plain]; exact hsrc
  · intro u hu; simp at hu; subst hu; rfl
  · intro v' w' r1 r2 r3
    refine hK v' w' (by rw [List.length_append, nv_app]; exact r1) ((Chg.of_grownRow r2).mono (fun k hk => ?_))
    rcases hown.2 with ⟨rfl, _⟩ | ⟨g, cc, cur, rfl, hg, _⟩
    · simp [Value.ownBlock] at hk
    · simp [Value.ownBlock] at hk
      subst hk
      exact hg

theorem slz_of_owns {w : World} {base : Nat} {v : Value} {o : List Nat} (h : w.ownsRow base 3 1 v o.length (nv o)) (hn : o ≠ []) : SlZ w v o := by
  have h' : w.ownsRow base 3 1 v o.length ((o.map fun (x : Nat) => (x : Int)).map (Value.int .i64)) := by rw [List.map_map]; exact h
  obtain ⟨g, c, h1, _, _, h4, h5⟩ := owns_ints h' (by simpa using hn)
  simp only [List.length_map] at h1 h5
  refine ⟨g, 0, c, h1, h5, fun k hk => ?_⟩
  have := h4 k (by simpa using hk)
  simpa using this

set_option maxRecDepth 100000 in
set_option maxHeartbeats 1000000 in
theorem sorted_any (N : Nat) : ∀ (X : List Nat), X.length = N → 1 ≤ N → N ≤ 100000 → ∀ (g off c : Nat) (w : World), N ≤ c → NatsAt w g off X →
    Calls Tryd.prog 50 #[.slice (some ⟨g, off, none⟩) N c] w (SrtR X w) := by
  induction N using Nat.strongRecOn with
  | ind N ih =>
  intro X hX h1 hN g off c w hc hx
  by_cases h2 : N < 2
  · have d0 : decide (N < 2) = true := by simpa using h2
    have HR : Hid (SrtR X w (.returned (.slice (some ⟨g, off, none⟩) N c)) w) := Lib.hid ⟨⟨_, X, rfl, ⟨g, off, c, by rw [hX], by omega, hx⟩, by
      match X, hX with
      | [], _ => simp [Srt]
      | [a], _ => simp [Srt]
      | a :: b :: t, h => simp at h; omega, rfl, fun _ => Iff.rfl⟩, Chg.refl _ _⟩
    clear ih hX hx
    go_enter Tryd.func50, Tryd.ntmps50
    go_wp2_with fail
    go_ret
    exact HR.out
  · have d0 : decide (N < 2) = false := by simpa using h2
    obtain ⟨M, hM⟩ : ∃ M, N / 2 = M := ⟨_, rfl⟩
    have hM1 : 1 ≤ M := by omega
    have hMN : M < N := by omega
    have hMI : (N : Int) / 2 = (M : Int) := by omega
    have HIH := Lib.hid ih
    have HX := Lib.hid hx; have HXL := Lib.hid hX
    have hL1 : (X.take M).length = M := by rw [List.length_take]; omega
    have hL2 : (X.drop M).length = N - M := by rw [List.length_drop]; omega
    have HA := Lib.hid (fun (w' : World) (hw : Chg (fun _ => False) w w') => ih M hMN (X.take M) hL1 hM1 (by omega) g off c w' (by omega) (fun k hk => by
      have h3 := hw.cell_some (hx k (by rw [hL1] at hk; omega)) (fun x => x)
      rw [h3, List.getElem_take]))
    have HB := Lib.hid (fun (w' : World) (hw : Chg (fun _ => False) w w') => ih (N - M) (by omega) (X.drop M) hL2 (by omega) (by omega) g (off + M) (c - M) w' (by omega) (fun k hk => by
      have h3 := hw.cell_some (hx (M + k) (by rw [hL2] at hk; omega)) (fun x => x)
      rw [← Nat.add_assoc] at h3
      rw [h3, List.getElem_drop]))
    have HTD := Lib.hid (List.take_append_drop M X)
    have HLL := Lib.hid (And.intro hL1 hL2)
    clear ih hX hx hM hL1 hL2 HIH
    obtain ⟨A, hA⟩ : ∃ A, X.take M = A := ⟨_, rfl⟩
    obtain ⟨B, hB⟩ : ∃ B, X.drop M = B := ⟨_, rfl⟩
    rw [hA] at HA HTD HLL
    rw [hB] at HB HTD HLL
    clear hA hB
    go_enter Tryd.func50, Tryd.ntmps50
    go_wp2_with fail
    have n1 : ¬ c = 0 := by omega
    have n2 : ¬ c = M := by omega
    have n3 : M ≤ c := by omega
    have n4 : (M : Int) ≤ (N : Int) := by omega
    have n5 : (0 : Int) ≤ (M : Int) := by omega
    have n6 : (M : Int) ≤ (c : Int) := by omega
    have n7 : (M : Int).toNat = M := rfl
    have n8 : IntKind.i64.wrap (M : Int) = (M : Int) := IntWalk.i64_in _ (by omega)
    have HZ := Lib.hid ((Chg.refl (fun _ => False) w).drew)
    go_region_with (first
      | (go_at_call 50; (with_reducible refine (HA.out _ HZ.out).mono ?_); rintro r wa ⟨⟨va, Y, rfl, ha1, ha2, ha3, ha4⟩, hca⟩; have HCA := Lib.hid hca; have HYA := Lib.hid (And.intro ha1 (And.intro ha2 (And.intro ha3 ha4))); clear hca ha1 ha2 ha3 ha4)
      | (go_at_call 50; (with_reducible refine (HB.out _ (HZ.out.trans HCA.out (fun _ x => x.elim))).mono ?_); rintro r wb ⟨⟨vb, Z, rfl, hb1, hb2, hb3, hb4⟩, hcb⟩; have HCB := Lib.hid hcb; have HYB := Lib.hid (And.intro hb1 (And.intro hb2 (And.intro hb3 hb4))); clear hcb hb1 hb2 hb3 hb4))
    obtain ⟨hya, hys, hyl, hym⟩ := HYA.out
    obtain ⟨hza, hzs, hzl, hzm⟩ := HYB.out
    obtain ⟨ga, oa, ca, rfl, hca1, hca2⟩ := hya
    obtain ⟨gb, ob, cb, rfl, hcb1, hcb2⟩ := hza
    have HNA := Lib.hid (hca2.chg HCB.out (fun x => x)); have HNB := Lib.hid hcb2
    have HC0 := Lib.hid ((HZ.out.trans HCA.out (fun _ x => x.elim)).trans HCB.out (fun _ x => x.elim))
    have HY := Lib.hid hys; have HZS := Lib.hid hzs
    have hna : Y.length = M := by rw [hyl]; exact HLL.out.1
    have hnb : Z.length = N - M := by rw [hzl]; exact HLL.out.2
    have HFIN : Hid (∀ o, Mrg Y Z Y.length Z.length o → Srt o ∧ o.length = X.length ∧ ∀ x, x ∈ o ↔ x ∈ X) := Lib.hid (fun o ho => by
      obtain ⟨f1, f2, f3⟩ := ho.full
      refine ⟨f1, by rw [f2, hna, hnb, HXL.out]; omega, fun x => ?_⟩
      rw [f3, hym, hzm, ← List.mem_append, HTD.out])
    obtain ⟨na, hna'⟩ : ∃ na, Y.length = na := ⟨_, rfl⟩
    obtain ⟨nb, hnb'⟩ : ∃ nb, Z.length = nb := ⟨_, rfl⟩
    rw [hna', hnb'] at HFIN
    rw [hna'] at hna ⊢
    rw [hnb'] at hnb ⊢
    have HYL := Lib.hid hna'; have HZL := Lib.hid hnb'
    have hsum : na + nb = N := by omega
    clear HYA HYB HCA HCB HZ hys hyl hym hzs hzl hzm hca1 hca2 hcb1 hcb2 n1 n2 n3 n4 n5 n6 n7 n8 hna hnb hna' hnb' HA HB HTD HLL HX d0 hMI
    go_wp2_with fail
    go_loopg [5, 6, 7] N (fun gm ov iv kv wr => ∃ (i k : Nat) (o : List Nat), gm = N - (i + k) ∧ iv = .int .i64 (i : Int) ∧ kv = .int .i64 (k : Int) ∧ wr.ownsRow wb.heap.size 3 1 ov o.length (nv o) ∧ Mrg Y Z i k o ∧ Chg (fun _ => False) wb wr)
    case atStart => exact ⟨0, 0, [], by omega, rfl, rfl, World.ownsRow_nil wb _ 3 1, Mrg.start Y Z, Chg.refl _ _⟩
    case round =>
      obtain ⟨i, k, o, rfl, rfl, rfl, how, hmr, hc2⟩ := hrel
      have HOW := Lib.hid how; have HC := Lib.hid hc2; have HM := Lib.hid hmr
      have hi := hmr.ha
      have hk := hmr.hb
      rw [HYL.out] at hi
      rw [HZL.out] at hk
      have hol := hmr.len
      clear how hc2 hmr
      by_cases hia : i < na
      · have t3 : decide (i < na) = true := by simpa using hia
        by_cases hkb : k < nb
        · have t1 : ¬ k = nb := by omega
          have t2 : ((k : Int) == (nb : Int)) = false := by simpa using (show ¬ (k : Int) = (nb : Int) by omega)
          have q1 := HC.out.cell_some (HNA.out i (by rw [HYL.out]; exact hia)) (fun x => x)
          obtain ⟨p, hp⟩ : ∃ p, Y[i]'(by rw [HYL.out]; exact hia) = p := ⟨_, rfl⟩
          rw [hp] at q1
          have q2 := HC.out.cell_some (HNB.out k (by rw [HZL.out]; exact hkb)) (fun x => x)
          obtain ⟨q, hq⟩ : ∃ q, Z[k]'(by rw [HZL.out]; exact hkb) = q := ⟨_, rfl⟩
          rw [hq] at q2
          by_cases hpq : p ≤ q
          · have t4 : decide (p ≤ q) = true := by simpa using hpq
            have HNX := Lib.hid (show Mrg Y Z (i + 1) k (o ++ [p]) by rw [← hp]; exact HM.out.left HY.out HZS.out (by rw [HYL.out]; exact hia) (fun _ => by rw [hp, hq]; exact hpq))
            clear hp hq
            go_wp2_with fail
            go_quiet (fail)
            obtain ⟨W1, hW1⟩ : ∃ W1 : World, W1 = wr.drewN nq := ⟨_, rfl⟩
            have HC1 := Lib.hid (show Chg (fun _ => False) wb W1 by rw [hW1]; exact HC.out.drewN _)
            have HO1 := Lib.hid (show W1.ownsRow wb.heap.size 3 1 u5 o.length (nv o) by rw [hW1]; exact owns_chg HOW.out ((Chg.refl (fun _ => False) wr).drewN _))
            have q1' : W1.cell? ⟨ga, oa + i, none⟩ = some (.int .i64 (p : Nat)) := by rw [hW1]; exact q1
            rw [← hW1]
            obtain ⟨g3, hg3⟩ : ∃ g3, W1.heap.size = g3 := ⟨_, rfl⟩
            have HOA := Lib.hid (owns_chg HO1.out ((Chg.refl (fun _ => False) W1).alloc (.cells #[.int .i64 (p : Int)] 3)))
            have HXX : Hid (NatsAt (W1.alloc (.cells #[.int .i64 (p : Int)] 3)) g3 0 [p]) := Lib.hid (by
              rw [← hg3]
              intro j hj
              obtain rfl : j = 0 := by simpa using hj
              exact (Blk.new W1 #[.int .i64 (p : Int)] 3).cell_some (i := 0) rfl)
            have HCA := Lib.hid (HC1.out.alloc (.cells #[.int .i64 (p : Int)] 3))
            clear hW1 q1 q2
            go_wp2_with (at_builtin; refine wpList_app rfl (.tmp 55) (.tmp 60) rfl wb.heap.size u5 o [p] (by simp [Act.eval]) HOA.out (some ⟨g3, 0, none⟩) 1 (by simp [Act.eval]) (.inr ⟨_, _, rfl, HXX.out⟩) (by simp; omega) HCA.out.size ?_; intro v2 w4 hown2 hc4)
            clear hg3 q1'
            have HC4 := Lib.hid (chg_new (HCA.out.mono (fun _ x => x.elim)) hc4)
            have HO4 := Lib.hid hown2
            clear hown2 hc4
            go_roundg (N - (i + k + 1))
            case measure => omega
            case rel => exact ⟨i + 1, k, o ++ [p], by omega, by go_num, rfl, HO4.out, HNX.out, HC4.out⟩
          · have t4 : decide (p ≤ q) = false := by simpa using hpq
            have HNX := Lib.hid (show Mrg Y Z i (k + 1) (o ++ [q]) by rw [← hq]; exact HM.out.right HY.out HZS.out (by rw [HZL.out]; exact hkb) (fun _ => by rw [hp, hq]; omega))
            clear hp hq
            go_wp2_with fail
            go_quiet (fail)
            obtain ⟨W1, hW1⟩ : ∃ W1 : World, W1 = wr.drewN nq := ⟨_, rfl⟩
            have HC1 := Lib.hid (show Chg (fun _ => False) wb W1 by rw [hW1]; exact HC.out.drewN _)
            have HO1 := Lib.hid (show W1.ownsRow wb.heap.size 3 1 u5 o.length (nv o) by rw [hW1]; exact owns_chg HOW.out ((Chg.refl (fun _ => False) wr).drewN _))
            have q1' : W1.cell? ⟨gb, ob + k, none⟩ = some (.int .i64 (q : Nat)) := by rw [hW1]; exact q2
            rw [← hW1]
            obtain ⟨g3, hg3⟩ : ∃ g3, W1.heap.size = g3 := ⟨_, rfl⟩
            have HOA := Lib.hid (owns_chg HO1.out ((Chg.refl (fun _ => False) W1).alloc (.cells #[.int .i64 (q : Int)] 3)))
            have HXX : Hid (NatsAt (W1.alloc (.cells #[.int .i64 (q : Int)] 3)) g3 0 [q]) := Lib.hid (by
              rw [← hg3]
              intro j hj
              obtain rfl : j = 0 := by simpa using hj
              exact (Blk.new W1 #[.int .i64 (q : Int)] 3).cell_some (i := 0) rfl)
            have HCA := Lib.hid (HC1.out.alloc (.cells #[.int .i64 (q : Int)] 3))
            clear hW1 q1 q2
            go_wp2_with (at_builtin; refine wpList_app rfl (.tmp 64) (.tmp 69) rfl wb.heap.size u5 o [q] (by simp [Act.eval]) HOA.out (some ⟨g3, 0, none⟩) 1 (by simp [Act.eval]) (.inr ⟨_, _, rfl, HXX.out⟩) (by simp; omega) HCA.out.size ?_; intro v2 w4 hown2 hc4)
            clear hg3 q1'
            have HC4 := Lib.hid (chg_new (HCA.out.mono (fun _ x => x.elim)) hc4)
            have HO4 := Lib.hid hown2
            clear hown2 hc4
            go_roundg (N - (i + k + 1))
            case measure => omega
            case rel => exact ⟨i, k + 1, o ++ [q], by omega, rfl, by go_num, HO4.out, HNX.out, HC4.out⟩
        · obtain rfl : k = nb := by omega
          have t2 : ((k : Int) == (k : Int)) = true := by simp
          have q1 := HC.out.cell_some (HNA.out i (by rw [HYL.out]; exact hia)) (fun x => x)
          obtain ⟨p, hp⟩ : ∃ p, Y[i]'(by rw [HYL.out]; exact hia) = p := ⟨_, rfl⟩
          rw [hp] at q1
          have HNX := Lib.hid (show Mrg Y Z (i + 1) k (o ++ [p]) by rw [← hp]; exact HM.out.left HY.out HZS.out (by rw [HYL.out]; exact hia) (fun h => by rw [HZL.out] at h; omega))
          clear hp
          go_wp2_with fail
          go_quiet (fail)
          obtain ⟨W1, hW1⟩ : ∃ W1 : World, W1 = wr.drewN nq := ⟨_, rfl⟩
          have HC1 := Lib.hid (show Chg (fun _ => False) wb W1 by rw [hW1]; exact HC.out.drewN _)
          have HO1 := Lib.hid (show W1.ownsRow wb.heap.size 3 1 u5 o.length (nv o) by rw [hW1]; exact owns_chg HOW.out ((Chg.refl (fun _ => False) wr).drewN _))
          have q1' : W1.cell? ⟨ga, oa + i, none⟩ = some (.int .i64 (p : Nat)) := by rw [hW1]; exact q1
          rw [← hW1]
          obtain ⟨g3, hg3⟩ : ∃ g3, W1.heap.size = g3 := ⟨_, rfl⟩
          have HOA := Lib.hid (owns_chg HO1.out ((Chg.refl (fun _ => False) W1).alloc (.cells #[.int .i64 (p : Int)] 3)))
          have HXX : Hid (NatsAt (W1.alloc (.cells #[.int .i64 (p : Int)] 3)) g3 0 [p]) := Lib.hid (by
            rw [← hg3]
            intro j hj
            obtain rfl : j = 0 := by simpa using hj
            exact (Blk.new W1 #[.int .i64 (p : Int)] 3).cell_some (i := 0) rfl)
          have HCA := Lib.hid (HC1.out.alloc (.cells #[.int .i64 (p : Int)] 3))
          clear hW1 q1
          go_wp2_with (at_builtin; refine wpList_app rfl (.tmp 55) (.tmp 60) rfl wb.heap.size u5 o [p] (by simp [Act.eval]) HOA.out (some ⟨g3, 0, none⟩) 1 (by simp [Act.eval]) (.inr ⟨_, _, rfl, HXX.out⟩) (by simp; omega) HCA.out.size ?_; intro v2 w4 hown2 hc4)
          clear hg3 q1'
          have HC4 := Lib.hid (chg_new (HCA.out.mono (fun _ x => x.elim)) hc4)
          have HO4 := Lib.hid hown2
          clear hown2 hc4
          go_roundg (N - (i + k + 1))
          case measure => omega
          case rel => exact ⟨i + 1, k, o ++ [p], by omega, by go_num, rfl, HO4.out, HNX.out, HC4.out⟩
      · obtain rfl : i = na := by omega
        have t3 : decide (i < i) = false := by simp
        by_cases hkb : k < nb
        · have t1 : ¬ k = nb := by omega
          have t2 : ((k : Int) == (nb : Int)) = false := by simpa using (show ¬ (k : Int) = (nb : Int) by omega)
          have t5 : decide (k < nb) = true := by simpa using hkb
          have q2 := HC.out.cell_some (HNB.out k (by rw [HZL.out]; exact hkb)) (fun x => x)
          obtain ⟨q, hq⟩ : ∃ q, Z[k]'(by rw [HZL.out]; exact hkb) = q := ⟨_, rfl⟩
          rw [hq] at q2
          have HNX := Lib.hid (show Mrg Y Z i (k + 1) (o ++ [q]) by rw [← hq]; exact HM.out.right HY.out HZS.out (by rw [HZL.out]; exact hkb) (fun h => by rw [HYL.out] at h; omega))
          clear hq
          go_wp2_with fail
          go_quiet (fail)
          obtain ⟨W1, hW1⟩ : ∃ W1 : World, W1 = wr.drewN nq := ⟨_, rfl⟩
          have HC1 := Lib.hid (show Chg (fun _ => False) wb W1 by rw [hW1]; exact HC.out.drewN _)
          have HO1 := Lib.hid (show W1.ownsRow wb.heap.size 3 1 u5 o.length (nv o) by rw [hW1]; exact owns_chg HOW.out ((Chg.refl (fun _ => False) wr).drewN _))
          have q1' : W1.cell? ⟨gb, ob + k, none⟩ = some (.int .i64 (q : Nat)) := by rw [hW1]; exact q2
          rw [← hW1]
          obtain ⟨g3, hg3⟩ : ∃ g3, W1.heap.size = g3 := ⟨_, rfl⟩
          have HOA := Lib.hid (owns_chg HO1.out ((Chg.refl (fun _ => False) W1).alloc (.cells #[.int .i64 (q : Int)] 3)))
          have HXX : Hid (NatsAt (W1.alloc (.cells #[.int .i64 (q : Int)] 3)) g3 0 [q]) := Lib.hid (by
            rw [← hg3]
            intro j hj
            obtain rfl : j = 0 := by simpa using hj
            exact (Blk.new W1 #[.int .i64 (q : Int)] 3).cell_some (i := 0) rfl)
          have HCA := Lib.hid (HC1.out.alloc (.cells #[.int .i64 (q : Int)] 3))
          clear hW1 q2
          go_wp2_with (at_builtin; refine wpList_app rfl (.tmp 64) (.tmp 69) rfl wb.heap.size u5 o [q] (by simp [Act.eval]) HOA.out (some ⟨g3, 0, none⟩) 1 (by simp [Act.eval]) (.inr ⟨_, _, rfl, HXX.out⟩) (by simp; omega) HCA.out.size ?_; intro v2 w4 hown2 hc4)
          clear hg3 q1'
          have HC4 := Lib.hid (chg_new (HCA.out.mono (fun _ x => x.elim)) hc4)
          have HO4 := Lib.hid hown2
          clear hown2 hc4
          go_roundg (N - (i + k + 1))
          case measure => omega
          case rel => exact ⟨i, k + 1, o ++ [q], by omega, rfl, by go_num, HO4.out, HNX.out, HC4.out⟩
        · obtain rfl : k = nb := by omega
          have t5 : decide (k < k) = false := by simp
          have HNE : Hid (o ≠ []) := Lib.hid (fun e => by rw [e] at hol; simp at hol; omega)
          have HRR : Hid (∀ v, v = u5 → SrtR X w (.returned v) wr) := Lib.hid (fun v hv => by
            obtain ⟨f1, f2, f3⟩ := HFIN.out o HM.out
            refine ⟨⟨v, o, rfl, ?_, f1, f2, f3⟩, HC0.out.trans HC.out (fun _ x => x.elim)⟩
            subst hv
            have := slz_of_owns HOW.out HNE.out
            exact this)
          clear hol
          go_wp2_with fail
          go_ret
          exact HRR.out _ rfl
end Go.Proofs.YtilacamhjibneaaDoor

/- Factors of the reference, walked. Its conditions are its premises. -/
namespace Go.Proofs.YtilacamhjibneaaDoor
open Go.RowKit

def cods (l : List Nat) (len j : Nat) : List Nat := (win l len j).map cod
theorem cods_len (l : List Nat) (len j : Nat) : (cods l len j).length = j := by simp [cods, win]
theorem cods_next (l : List Nat) (len j : Nat) : cods l len (j + 1) = cods l len j ++ [cod ((l.drop j).take len)] := by simp [cods, win_next]
def pre (l : List Nat) (j k : Nat) : Nat := cod ((l.drop j).take k)
theorem pre_next {l : List Nat} {j k : Nat} (h : j + k < l.length) : pre l j (k + 1) = pre l j k * 6 + l[j + k] := by
  unfold pre
  rw [List.take_succ_eq_append_getElem (by rw [List.length_drop]; omega), cod_snoc, List.getElem_drop]
theorem pre_lt {l : List Nat} (hl : ∀ c ∈ l, c < 6) {j k : Nat} (h : j + k ≤ l.length) (hk : k ≤ 10) : pre l j k < 60466176 := by
  have h1 := cod_lt k ((l.drop j).take k) (by rw [List.length_take, List.length_drop]; omega) (fun c hc => hl c (List.mem_of_mem_drop (List.mem_of_mem_take hc)))
  have h2 : 6 ^ k ≤ 6 ^ 10 := Nat.pow_le_pow_right (by decide) hk
  unfold pre
  omega

theorem runs_at {Y : List Nat} {t : Nat} (h : t < Y.length) (h1 : 1 ≤ t) : runs Y (t + 1) = runs Y t + if Y[t] = Y[t - 1]'(by omega) then 0 else 1 := by
  obtain ⟨k, rfl⟩ : ∃ k, t = k + 1 := ⟨t - 1, by omega⟩
  have e1 : Y[k + 1]? = some Y[k + 1] := List.getElem?_eq_getElem _
  have e2 : Y[k]? = some (Y[k]'(by omega)) := List.getElem?_eq_getElem _
  rw [runs, e1, e2]
  simp

set_option maxRecDepth 100000 in
set_option maxHeartbeats 1000000 in
theorem rfactors_ok (V : List (List Nat)) (hV : WF V) (i : Nat) (hi : i < V.length) (hb : budV V i = true) (len : Nat) (hl1 : 1 ≤ len) (hl10 : len ≤ 10) (b off cap : Nat) (w : World) (hv : VAt w b off V) :
    Calls Tryd.prog 18 #[.slice (some ⟨b, off, none⟩) V.length cap, .string (str [i]), .int .i64 (len : Int)] w fun e w' => e = .returned (.tuple #[.int .i64 (facV (ewL V i 0 100000) len : Nat), .int .i64 0]) ∧ Chg (fun _ => False) w w' := by
  have hn6 := hV.le
  have HBG := Lib.hid (fun w hv => begun_ok V hV i hi 100000 (Nat.le_refl _) (fed_any hV hi hb 100000) b off cap w hv)
  have HBE := Lib.hid (rbudE_ok V hV i hi hb b off cap w hv)
  have HTK := Lib.hid (fun K (h : 100000 ≤ (bg V i K).length) => fac_take hV hi hb h)
  have HLT := Lib.hid (fun j => ew_lt hV hi hb j)
  have HV := Lib.hid hv
  have HRF := Lib.hid (fun r hs hr hm => runs_fac (l := ewL V i 0 100000) (n := len) (by rw [ewL_len]; omega) (fun c hc => by
    obtain ⟨t, ht, rfl⟩ := List.mem_map.1 hc
    have := ew_lt hV hi hb (0 + t)
    omega) (r := r) hs hr hm)
  have HLC : Hid (∀ c ∈ ewL V i 0 100000, c < 6) := Lib.hid (fun c hc => by
    obtain ⟨t, ht, rfl⟩ := List.mem_map.1 hc
    have := HLT.out (0 + t)
    omega)
  have hLL := ewL_len V i 0 100000
  obtain ⟨l, hl⟩ : ∃ l, ewL V i 0 100000 = l := ⟨_, rfl⟩
  simp only [hl] at HTK
  rw [hl] at hLL HRF HLC ⊢
  have HLL := Lib.hid hLL
  obtain ⟨R, hR⟩ : ∃ R, facV l len = R := ⟨_, rfl⟩
  rw [hR] at HRF ⊢
  clear hl hLL HLT hR
  clear hV hv hb
  have h0s : ∀ bs, str [i] = bs → ∀ h : 0 < bs.size, (bs[0]'h).toNat = 97 + i := by
    rintro _ rfl h
    exact str_zero (p := [i]) (by simp) (by simp; omega) h
  have hs1 : (str [i]).size = 1 := str_size [i]
  obtain ⟨bs, hbs⟩ : ∃ bs, str [i] = bs := ⟨_, rfl⟩
  rw [hbs] at hs1 HBE ⊢
  have h00 := h0s bs hbs
  clear h0s
  have hmod : (((97 + i : Nat) : Int) - 97) % 256 = (i : Int) := by omega
  obtain ⟨C, hC⟩ : ∃ C, 97 + i = C := ⟨_, rfl⟩
  rw [hC] at hmod
  simp only [hC] at h00
  have hii : (i : Int) < (V.length : Int) := by omega
  have d1 : decide ((len : Int) < 1) = false := by simp; omega
  have d2 : decide ((10 : Int) < (len : Int)) = false := by simp; omega
  clear hbs hC
  go_enter Tryd.func18, Tryd.ntmps18
  go_wp2_with fail
  refine HBE.out.mono ?_
  rintro e w2 ⟨rfl, hc2⟩
  have HC2 := Lib.hid hc2
  clear hc2
  go_wp2_with fail
  refine (HBG.out _ (HV.out.chg HC2.out (fun x => x))).mono ?_
  rintro e w3 ⟨⟨g, c, K, rfl, hcap, hK, hu⟩, hc3⟩
  rw [HTK.out K hK] at hu
  have HC3 := Lib.hid (HC2.out.trans hc3 (fun _ x => x.elim))
  have HU := Lib.hid hu
  clear hu hc3 hK HTK d1 d2 hmod h00 hs1 hii
  go_wp2_with fail
  go_loopg [10, 11] 100001 (fun gm ov jv wr => ∃ j : Nat, j + len ≤ 100001 ∧ gm = 100001 - j ∧ jv = .int .i64 (j : Int) ∧ wr.ownsRow w3.heap.size 3 1 ov (cods l len j).length (nv (cods l len j)) ∧ Chg (fun _ => False) w3 wr)
  case atStart => exact ⟨0, by omega, rfl, rfl, World.ownsRow_nil w3 _ 3 1, Chg.refl _ _⟩
  case round =>
    obtain ⟨j, hj, rfl, rfl, how, hc⟩ := hrel
    have HOW := Lib.hid how; have HC := Lib.hid hc
    clear how hc
    by_cases hjl : j + len ≤ 100000
    · have d1 : decide ((j : Int) + (len : Int) ≤ 100000) = true := by simp; omega
      go_wp2_with fail
      go_loopg [12, 13] len (fun gm nn kv wx => ∃ k : Nat, k ≤ len ∧ gm = len - k ∧ kv = .int .i64 (k : Int) ∧ nn = .int .i64 (pre l j k : Nat) ∧ Chg (fun _ => False) wr wx)
      case atStart => exact ⟨0, by omega, by omega, rfl, rfl, Chg.refl _ _⟩
      case round =>
        obtain ⟨k, hk, rfl, rfl, rfl, hc⟩ := hrel
        have HCX := Lib.hid hc
        clear hc
        by_cases hkl : k < len
        · have d2 : decide (k < len) = true := by simpa using hkl
          have hjk : j + k < l.length := by rw [HLL.out]; omega
          have q1 := ((HU.out.chg HC.out (fun x => x)).chg HCX.out (fun x => x)) (j + k) hjk
          rw [Nat.zero_add] at q1
          have hlt := HLC.out _ (List.getElem_mem hjk)
          have hu8 := u8_chr l[j + k] (by omega)
          have HPN := Lib.hid (pre_next hjk)
          have hpl := pre_lt HLC.out (j := j) (k := k) (by omega) (by omega)
          obtain ⟨d, hd⟩ : ∃ d, l[j + k] = d := ⟨_, rfl⟩
          rw [hd] at q1 hlt hu8 HPN
          obtain ⟨D, hD⟩ : ∃ D, 97 + d = D := ⟨_, rfl⟩
          rw [hD] at q1 hu8
          obtain ⟨x, hx⟩ : ∃ x, pre l j k = x := ⟨_, rfl⟩
          rw [hx] at hpl HPN ⊢
          have hji : (j : Int) + (k : Int) < 100000 := by omega
          clear hd hD hx hjk
          go_wp2_with fail
          go_roundg (len - (k + 1))
          case measure => omega
          case rel => exact ⟨k + 1, by omega, rfl, by go_num, by rw [HPN.out]; go_num, HCX.out⟩
        · obtain rfl : k = len := by omega
          have d2 : decide (k < k) = false := by simp
          have HCN := Lib.hid (cods_next l k j)
          have HCL := Lib.hid (cods_len l k j)
          have HPX := Lib.hid (show pre l j k = cod ((l.drop j).take k) from rfl)
          obtain ⟨x, hx⟩ : ∃ x, pre l j k = x := ⟨_, rfl⟩
          rw [← HPX.out, hx] at HCN
          rw [hx]
          clear hx HPX
          obtain ⟨g3, hg3⟩ : ∃ g3, wr.heap.size = g3 := ⟨_, rfl⟩
          have HO1 := Lib.hid (owns_chg HOW.out HCX.out)
          have HOA := Lib.hid (owns_chg HO1.out ((Chg.refl (fun _ => False) wr).alloc (.cells #[.int .i64 (x : Int)] 3)))
          have HXX : Hid (NatsAt (wr.alloc (.cells #[.int .i64 (x : Int)] 3)) g3 0 [x]) := Lib.hid (by
            rw [← hg3]
            intro j hj
            obtain rfl : j = 0 := by simpa using hj
            exact (Blk.new wr #[.int .i64 (x : Int)] 3).cell_some (i := 0) rfl)
          have HCA := Lib.hid ((HC.out.trans HCX.out (fun _ x => x.elim)).alloc (.cells #[.int .i64 (x : Int)] 3))
          go_wp2_with (at_builtin; refine wpList_app rfl (.tmp 58) (.tmp 60) rfl w3.heap.size u10 (cods l k j) [x] (by simp [Act.eval]) HOA.out (some ⟨g3, 0, none⟩) 1 (by simp [Act.eval]) (.inr ⟨_, _, rfl, HXX.out⟩) (by rw [HCL.out]; simp; omega) HCA.out.size ?_; intro v2 w4 hown2 hc4)
          clear hg3
          have HC4 := Lib.hid (chg_new (HCA.out.mono (fun _ x => x.elim)) hc4)
          have HO4 := Lib.hid hown2
          clear hown2 hc4
          go_roundg (100001 - (j + 1))
          case measure => omega
          case rel => exact ⟨j + 1, by omega, rfl, by go_num, by rw [HCN.out]; exact HO4.out, HC4.out⟩
    · have d1 : decide ((j : Int) + (len : Int) ≤ 100000) = false := by simp; omega
      have hj1 : 1 ≤ j := by omega
      have hjm : j ≤ 100000 := by omega
      have hjl2 : j = l.length + 1 - len := by have := HLL.out; omega
      have HJL := Lib.hid hjl2
      have hne : cods l len j ≠ [] := by intro e; have := cods_len l len j; rw [e] at this; simp at this; omega
      obtain ⟨g1, o1, c1, hu10, hcl1, hn1⟩ := slz_of_owns HOW.out hne
      have hcl := cods_len l len j
      have HSO : Hid (Calls Tryd.prog 50 #[.slice (some ⟨g1, o1, none⟩) j c1] wr (SrtR (cods l len j) wr)) := Lib.hid (sorted_any j (cods l len j) hcl hj1 hjm g1 o1 c1 wr (by omega) hn1)
      rw [hcl] at hu10
      subst hu10
      have HRX : Hid (∀ Y : List Nat, Srt Y → Y.length = j → (∀ x, x ∈ Y ↔ x ∈ cods l len j) → runs Y j = R) := Lib.hid (fun Y h1 h2 h3 => by
        have := HRF.out Y h1 (by rw [h2]; exact hjl2) (fun x => by rw [h3]; unfold cods; rw [hjl2])
        rw [h2] at this
        exact this)
      have HCL := Lib.hid hcl
      clear hjl2 hne hcl1 hn1 hcl HRF
      go_wp2_with fail
      refine HSO.out.mono ?_
      rintro r w5 ⟨⟨v5, Y, rfl, ⟨g5, o5, c5, rfl, hc5a, hn5⟩, hs5, hl5, hm5⟩, hc5⟩
      rw [HCL.out] at hl5
      have HN5 := Lib.hid hn5
      have HC5 := Lib.hid ((HC3.out.trans HC.out (fun _ x => x.elim)).trans hc5 (fun _ x => x.elim))
      have HYR := Lib.hid (HRX.out Y hs5 hl5 hm5)
      have HYL := Lib.hid hl5
      rw [hl5]
      clear hn5 hs5 hl5 hm5 hc5 HRX HSO hc5a
      go_wp2_with fail
      go_loopg [14, 15] (j - 1) (fun gm mv tv wx => ∃ t : Nat, 1 ≤ t ∧ t ≤ j ∧ gm = j - t ∧ tv = .int .i64 (t : Int) ∧ mv = .int .i64 (runs Y t : Nat) ∧ Chg (fun _ => False) w5 wx)
      case atStart => exact ⟨1, by omega, by omega, by omega, rfl, rfl, Chg.refl _ _⟩
      case round =>
        obtain ⟨t, ht1, htj, rfl, rfl, rfl, hcx⟩ := hrel
        have HCX := Lib.hid hcx
        clear hcx
        have hrl := runs_le Y t
        by_cases htl : t < j
        · have d3 : decide (t < j) = true := by simpa using htl
          have q1 := (HN5.out.chg HCX.out (fun x => x)) t (by rw [HYL.out]; exact htl)
          have q2 := (HN5.out.chg HCX.out (fun x => x)) (t - 1) (by rw [HYL.out]; omega)
          have HRN : Hid (runs Y (t + 1) = runs Y t + if Y[t]'(by rw [HYL.out]; exact htl) = Y[t - 1]'(by rw [HYL.out]; omega) then 0 else 1) := Lib.hid (by
            exact runs_at (by rw [HYL.out]; exact htl) ht1)
          obtain ⟨p, hp⟩ : ∃ p, Y[t]'(by rw [HYL.out]; exact htl) = p := ⟨_, rfl⟩
          obtain ⟨q, hq⟩ : ∃ q, Y[t - 1]'(by rw [HYL.out]; omega) = q := ⟨_, rfl⟩
          rw [hp] at q1 HRN
          rw [hq] at q2 HRN
          obtain ⟨x, hx⟩ : ∃ x, runs Y t = x := ⟨_, rfl⟩
          rw [hx] at hrl HRN ⊢
          clear hp hq hx
          obtain ⟨s, hs⟩ : ∃ s, t - 1 = s := ⟨_, rfl⟩
          have hsI : (t : Int) - 1 = (s : Int) := by omega
          have hsj : (s : Int) < (j : Int) := by omega
          have hs0 : (0 : Int) ≤ (s : Int) := by omega
          have htI : (t : Int) < (j : Int) := by omega
          rw [hs] at q2
          clear hs
          have hw2 : IntKind.i64.wrap ((t : Int) - 1) = (s : Int) := by rw [hsI]; exact IntWalk.i64_in _ (by omega)
          have hw3 : wrap64 ((t : Int) - 1) = (s : Int) := by rw [hsI]; exact wrap_id (x := (s : Int)) (by omega)
          by_cases hpq : p = q
          · rw [if_pos hpq, Nat.add_zero] at HRN
            subst hpq
            go_wp2_with fail
            go_quiet (fail)
            go_wp2_with fail
            go_roundg (j - (t + 1))
            case measure => omega
            case rel => exact ⟨t + 1, by omega, by omega, rfl, by go_num, by rw [HRN.out]; rfl, HCX.out.drewN _⟩
          · rw [if_neg hpq] at HRN
            have hpq2 : ¬ (p : Int) = (q : Int) := by omega
            have hpq3 : ((p : Int) == (q : Int)) = false := by simpa using hpq2
            have hpq4 : ((p : Int) != (q : Int)) = true := by simpa using hpq2
            go_wp2_with fail
            go_quiet (fail)
            go_wp2_with fail
            go_roundg (j - (t + 1))
            case measure => omega
            case rel => exact ⟨t + 1, by omega, by omega, rfl, by go_num, by rw [HRN.out]; go_num, HCX.out.drewN _⟩
        · obtain rfl : t = j := by omega
          have d3 : decide (t < t) = false := by simp
          rw [HYR.out]
          go_wp2_with fail
          go_ret2
          exact ⟨rfl, HC5.out.trans HCX.out (fun _ x => x.elim)⟩
end Go.Proofs.YtilacamhjibneaaDoor

/- The law VineFactors, at any input. No condition but the arguments' cells. -/
namespace Go.Proofs.YtilacamhjibneaaDoor
open Go.RowKit

def FacBoth (P : List ByteArray) (s : ByteArray) (len x e : Int) : Prop := ∀ (v : Value) (w : World), SlS w v P →
  (Calls Tryd.prog 17 #[v, .string s, .int .i64 len] w fun r w' => r = .returned (.tuple #[.int .i64 x, .int .i64 e]) ∧ Chg (fun _ => False) w w') ∧
  (Calls Tryd.prog 18 #[v, .string s, .int .i64 len] w fun r w' => r = .returned (.tuple #[.int .i64 x, .int .i64 e]) ∧ Chg (fun _ => False) w w')

set_option maxRecDepth 100000 in
set_option maxHeartbeats 1000000 in
theorem factors_both (P : List ByteArray) (s : ByteArray) (len : Int) (hpi : I64 len) (hn : P.length ≤ 1000) (hz : ∀ p ∈ P, p.size ≤ 1000) (hzs : s.size ≤ 1000) : ∃ x e, FacBoth P s len x e := by
  rcases bud_cases P s hn hz hzs with ⟨V, i, rfl, rfl, hV, hi, hb⟩ | ⟨E, hE, hr⟩
  · have hpos := hV.pos
    by_cases hlen : 1 ≤ len ∧ len ≤ 10
    · obtain ⟨n, rfl⟩ : ∃ n : Nat, len = (n : Int) := ⟨len.toNat, by omega⟩
      refine ⟨(facV (ewL V i 0 100000) n : Nat), 0, fun v w hv => ?_⟩
      obtain ⟨ao, b, off, cap, rfl, hst, ha⟩ := hv.form
      obtain rfl := ha.resolve_left (fun e => by have h0 := congrArg List.length e; rw [List.length_map, List.length_nil] at h0; omega)
      have hva := vat_of hst
      rw [List.length_map]
      exact ⟨fac_bud V hV i hi hb n (by omega) (by omega) b off cap w hva, rfactors_ok V hV i hi hb n (by omega) (by omega) b off cap w hva⟩
    · refine ⟨0, 2, fun v w hv => ?_⟩
      obtain ⟨ao, b, off, cap, rfl, hst, ha⟩ := hv.form
      obtain rfl := ha.resolve_left (fun e => by have h0 := congrArg List.length e; rw [List.length_map, List.length_nil] at h0; omega)
      have hva := vat_of hst
      rw [List.length_map]
      have HF := Lib.hid (first_ok V hV i hi hb 100000 (Nat.le_refl _) (fed_any hV hi hb 100000) b off cap w hva)
      have HBE := Lib.hid (rbudE_ok V hV i hi hb b off cap w hva)
      obtain ⟨bs, hbs⟩ : ∃ bs, str [i] = bs := ⟨_, rfl⟩
      rw [hbs] at HF HBE ⊢
      unfold I64 at hpi
      clear hbs hV hb hst ha hv hva hz hzs hn
      by_cases h1 : len < 1
      · have d1 : decide (len < 1) = true := by simpa using h1
        clear hlen
        constructor
        · go_enter Tryd.func17, Tryd.ntmps17
          go_wp2_with fail
          refine HF.out.mono ?_
          rintro e w1 ⟨⟨g, c, K, rfl, hcap, hK, hu⟩, hc1⟩
          have HC := Lib.hid hc1
          clear hc1 hu hK hcap
          go_wp2_with fail
          go_ret2
          exact ⟨rfl, HC.out⟩
        · go_enter Tryd.func18, Tryd.ntmps18
          go_wp2_with fail
          refine HBE.out.mono ?_
          rintro e w1 ⟨rfl, hc1⟩
          have HC := Lib.hid hc1
          clear hc1
          go_wp2_with fail
          go_ret2
          exact ⟨rfl, HC.out⟩
      · have d1 : decide (len < 1) = false := by simpa using h1
        have h2 : 10 < len := by omega
        have d2 : decide (10 < len) = true := by simpa using h2
        clear hlen
        constructor
        · go_enter Tryd.func17, Tryd.ntmps17
          go_wp2_with fail
          refine HF.out.mono ?_
          rintro e w1 ⟨⟨g, c, K, rfl, hcap, hK, hu⟩, hc1⟩
          have HC := Lib.hid hc1
          clear hc1 hu hK hcap
          go_wp2_with fail
          go_ret2
          exact ⟨rfl, HC.out⟩
        · go_enter Tryd.func18, Tryd.ntmps18
          go_wp2_with fail
          refine HBE.out.mono ?_
          rintro e w1 ⟨rfl, hc1⟩
          have HC := Lib.hid hc1
          clear hc1
          go_wp2_with fail
          go_ret2
          exact ⟨rfl, HC.out⟩
  · refine ⟨0, (E : Int), fun v w hv => ?_⟩
    have HR := Lib.hid (fun many => hr v many w hv)
    have dn : (((E : Nat) : Int) != 0) = true := by simpa using hE
    unfold I64 at hpi
    clear hr hv hz hE
    constructor
    · go_enter Tryd.func17, Tryd.ntmps17
      go_wp2_with fail
      refine ((HR.out _).1).mono ?_
      rintro e w1 ⟨rfl, hc⟩
      have HC := Lib.hid hc
      clear hc
      go_wp2_with fail
      go_ret2
      exact ⟨rfl, HC.out⟩
    · go_enter Tryd.func18, Tryd.ntmps18
      go_wp2_with fail
      refine ((HR.out 0).2).mono ?_
      rintro e w1 ⟨rfl, hc⟩
      have HC := Lib.hid hc
      clear hc
      go_wp2_with fail
      go_ret2
      exact ⟨rfl, HC.out⟩

set_option maxRecDepth 100000 in
set_option maxHeartbeats 1000000 in
theorem vineFactors_law (P : List ByteArray) (s : ByteArray) (len : Int) (hpi : I64 len) (v : Value) (w : World) (hv : SlS w v P) (hs : s.size ≤ maxLen) :
    Calls Tryd.prog 3 #[v, .string s, .int .i64 len] w fun e w' => e = .returned (.bool true) ∧ Chg (fun _ => False) w w' := by
  have HF := Lib.hid (few_any P s v w hv hs)
  by_cases hfew : fewV P s = true
  · obtain ⟨hn, hz, hzs⟩ := few_small hfew
    rw [hfew] at HF
    obtain ⟨x, e1, hl⟩ := factors_both P s len hpi hn hz hzs
    have HL := Lib.hid hl
    have HV := Lib.hid hv
    unfold I64 at hpi
    clear hl hfew hn hz hzs hv
    go_enter Tryd.func3, Tryd.ntmps3
    go_wp2_with fail
    refine HF.out.mono ?_
    rintro e w1 ⟨rfl, rfl⟩
    go_wp2_with fail
    refine ((HL.out v _ HV.out).1).mono ?_
    rintro r w6 ⟨rfl, hc6⟩
    have HC6 := Lib.hid hc6
    clear hc6
    go_wp2_with fail
    refine ((HL.out v w6 (HV.out.chg HC6.out)).2).mono ?_
    rintro r w7 ⟨rfl, hc7⟩
    have HC7 := Lib.hid (HC6.out.trans hc7 (fun _ x => x.elim))
    clear hc7
    go_wp2_with fail
    refine (alive_any _).mono ?_
    rintro e w8 ⟨rfl, hc8⟩
    have HC8 := Lib.hid (HC7.out.trans hc8 (fun _ x => x.elim))
    clear hc8
    go_wp2_with fail
    go_ret
    exact ⟨rfl, HC8.out⟩
  · have hff : fewV P s = false := by simpa using hfew
    rw [hff] at HF
    clear hfew hff hv
    go_enter Tryd.func3, Tryd.ntmps3
    go_wp2_with fail
    refine HF.out.mono ?_
    rintro e w1 ⟨rfl, rfl⟩
    go_wp2_with fail
    refine (alive_any w1).mono ?_
    rintro e w2 ⟨rfl, hc2⟩
    have HC2 := Lib.hid hc2
    clear hc2
    go_wp2_with fail
    go_ret
    exact ⟨rfl, HC2.out⟩
end Go.Proofs.YtilacamhjibneaaDoor
