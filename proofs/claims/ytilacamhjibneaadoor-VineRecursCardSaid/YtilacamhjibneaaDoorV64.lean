/- The reference's determinant, walked. Its conditions are its premises. -/
import Derived.Test.YtilacamhjibneaaDoorV62
import Derived.Test.YtilacamhjibneaaDoorV30
set_option linter.unusedVariables false
namespace Go.Proofs.YtilacamhjibneaaDoor
open Go.RowKit

/-- A slice of small numbers. -/
def SlN (w : World) (v : Value) (X : List Nat) : Prop := ∃ ao g off c, v = .slice ao X.length c ∧ X.length ≤ c ∧ (X = [] ∨ ao = some ⟨g, off, none⟩) ∧ NatsAt w g off X
theorem SlN.chg {w w' : World} {v : Value} {X : List Nat} (h : SlN w v X) (hc : Chg (fun _ => False) w w') : SlN w' v X := by
  obtain ⟨ao, g, off, c, h1, h2, h3, h4⟩ := h
  exact ⟨ao, g, off, c, h1, h2, h3, h4.chg hc (fun x => x)⟩

theorem nats_take {w : World} {b off : Nat} {l : List Nat} (h : NatsAt w b off l) (i : Nat) : NatsAt w b off (l.take i) := fun k hk => by
  rw [List.getElem_take]
  exact h k (by rw [List.length_take] at hk; omega)
theorem nats_drop {w : World} {b off : Nat} {l : List Nat} (h : NatsAt w b off l) (i : Nat) : NatsAt w b (off + i) (l.drop i) := fun k hk => by
  rw [List.getElem_drop, Nat.add_assoc]
  exact h (i + k) (by rw [List.length_drop] at hk; omega)
/-- A slice of numbers behind a slice of the call's own. -/
theorem wpList_app {w : World} {ops : Array Oper} {rest : List Oper} {o : Oper} {a : Act} {Q : Exit → Act → World → Prop} (hgd : o.guard = none) (sl x : Operand)
    (ho : o.op = .call { callee := .builtin .append, args := #[sl, x], argTypes := #[29, 29] }) (base : Nat) (v : Value) (l t : List Nat) (hs : a.eval sl = v) (hown : w.ownsRow base 3 1 v l.length (nv l))
    (bo : Option Addr) (c : Nat) (hx : a.eval x = .slice bo t.length c) (hsrc : t = [] ∨ ∃ g off, bo = some ⟨g, off, none⟩ ∧ NatsAt w g off t) (hl : l.length + t.length ≤ 100000) (hb : base ≤ w.heap.size)
    (hK : ∀ v' w', w'.ownsRow base 3 1 v' (l ++ t).length (nv (l ++ t)) → Chg (fun k => base ≤ k) w w' → wpList Tryd.prog ops Q rest (a.put o.dst v') w') : wpList Tryd.prog ops Q (o :: rest) a w := by
  obtain ⟨i0, h0, h1, h2, h3⟩ := info_parts info3
  refine wpList_append_all hgd sl x 29 ho base 3 i0 _ 1 8 Tryd.underlying29 h0 h1 h2 h3 rfl (by decide) v l.length (nv l) hs hown bo t.length c (nv t) hx (by simp [nv]) ?_ ?_ (by unfold maxLen; omega) (by omega) hb ?_
  · rcases hsrc with rfl | ⟨g, off, rfl, hn⟩
    · exact .inl rfl
    · refine .inr ⟨_, rfl, fun j u hj => ?_⟩
      rw [add_plain]
      unfold nv at hj
      rw [List.getElem?_map] at hj
      by_cases hjt : j < t.length
      · rw [List.getElem?_eq_getElem hjt] at hj
        cases hj
        exact hn j hjt
      · rw [List.getElem?_eq_none (by omega)] at hj
        cases hj
  · intro u hu
    unfold nv at hu
    obtain ⟨x, _, rfl⟩ := List.mem_map.1 hu
    rfl
  · intro v' w' r1 r2 r3
    refine hK v' w' (by rw [List.length_append, nv_app]; exact r1) ((Chg.of_grownRow r2).mono (fun k hk => ?_))
    rcases hown.2 with ⟨rfl, _⟩ | ⟨g, cc, cur, rfl, hg, _⟩
    · simp [Value.ownBlock] at hk
    · simp [Value.ownBlock] at hk
      omega

theorem sln_of_owns {w : World} {base : Nat} {v : Value} {X : List Nat} (h : w.ownsRow base 3 1 v X.length (nv X)) : SlN w v X := by
  have h' : w.ownsRow base 3 1 v X.length ((X.map fun (x : Nat) => (x : Int)).map (Value.int .i64)) := by
    rw [List.map_map]
    exact h
  by_cases hX : X = []
  · subst hX
    obtain ⟨ao, c, rfl, _⟩ := owns_form h
    exact ⟨ao, base, 0, c, rfl, Nat.zero_le _, .inl rfl, fun k hk => by simp at hk⟩
  · obtain ⟨g, c, rfl, h1, h2, h3, h4⟩ := owns_ints h' (by simpa using hX)
    rw [List.length_map] at h4 ⊢
    refine ⟨_, g, 0, c, rfl, h4, .inr rfl, fun k hk => ?_⟩
    have := h3 k (by simpa using hk)
    simpa using this
theorem chg_new {w w1 w2 : World} (h1 : Chg (fun k => w.heap.size ≤ k) w w1) (h2 : Chg (fun k => w.heap.size ≤ k) w1 w2) : Chg (fun _ => False) w w2 :=
  (h1.trans h2 (fun _ h => .inr h)).trans (Chg.refl (fun _ => False) w2) (fun _ h => h.elim) |> fun h => ⟨h.os, h.tape, h.output, h.size, fun b hb _ => h.block b hb (by omega)⟩
theorem i64_small {x : Int} (h : x.natAbs ≤ 9000000000000000000) : IntKind.i64.wrap x = x := IntWalk.i64_in _ (by omega)
/-- What the region of the product loads. -/
structure K4 (wc w' : World) (g off r mb rg n rc g2 o2 x : Nat) (e : Int) : Prop where
  a : w'.cell? ⟨g, off, none⟩ = some (.int .i64 (r : Nat))
  b : w'.cell? ⟨mb, r, none⟩ = some (.slice (some ⟨rg, 0, none⟩) n rc)
  d : w'.cell? ⟨g2, o2, none⟩ = some (.int .i64 (x : Nat))
  f : w'.cell? ⟨rg, x, none⟩ = some (.int .i64 e)
  c : Chg (fun _ => False) wc w'
theorem K4.chg {wc w' w2 : World} {g off r mb rg n rc g2 o2 x : Nat} {e : Int} (h : K4 wc w' g off r mb rg n rc g2 o2 x e) (hc : Chg (fun _ => False) w' w2) : K4 wc w2 g off r mb rg n rc g2 o2 x e :=
  ⟨hc.cell_some h.a (fun x => x), hc.cell_some h.b (fun x => x), hc.cell_some h.d (fun x => x), hc.cell_some h.f (fun x => x), h.c.trans hc (fun _ x => x.elim)⟩
/-- The sum as far as the columns go. -/
theorem sumI_range0 (f : Nat → Int) : ∀ k, sumI f (List.range (k + 1)) = f 0 + sumI (fun j => f (j + 1)) (List.range k)
  | 0 => by simp [sumI, List.range_succ]
  | k + 1 => by
    rw [sumI_range, sumI_range0 f k, sumI_range]
    omega
theorem ex_sumI (g : Nat → Int) : ∀ (cs : List Nat) (F : List Nat → Int), ex g F cs = sumI (fun j => sgn j * g (at0 cs j) * F (cs.eraseIdx j)) (List.range cs.length)
  | [], _ => rfl
  | c :: cs, F => by
    rw [ex, ex_sumI g cs, List.length_cons, sumI_range0]
    have h : sumI (fun j => sgn (j + 1) * g (at0 (c :: cs) (j + 1)) * F ((c :: cs).eraseIdx (j + 1))) (List.range cs.length) = - sumI (fun j => sgn j * g (at0 cs j) * F (c :: cs.eraseIdx j)) (List.range cs.length) := by
      have h2 : - sumI (fun j => sgn j * g (at0 cs j) * F (c :: cs.eraseIdx j)) (List.range cs.length) = sumI (fun j => (-1) * (sgn j * g (at0 cs j) * F (c :: cs.eraseIdx j))) (List.range cs.length) := by
        rw [sumI_mul]; omega
      rw [h2]
      refine sumI_congr _ (fun j _ => ?_)
      rw [sgn_succ]
      show - sgn j * g (at0 cs j) * F (c :: cs.eraseIdx j) = _
      grind
    rw [h]
    have e : sgn 0 * g (at0 (c :: cs) 0) * F ((c :: cs).eraseIdx 0) = g c * F cs := by
      show 1 * g c * F cs = _
      rw [Int.one_mul]
    rw [e]
    omega

set_option maxRecDepth 100000 in
set_option maxHeartbeats 1000000 in
theorem rdet_any (A : List (List Int)) (n : Nat) (hn : n ≤ 6) (hb : ∀ i j, (ent A i j).natAbs ≤ 8) (mb mc : Nat) :
    ∀ (rows cols : List Nat), cols.length = rows.length → rows.length ≤ 6 → (∀ r ∈ rows, r < n) → (∀ c ∈ cols, c < n) → ∀ (rv cv : Value) (w : World), MatI w mb n A → SlN w rv rows → SlN w cv cols →
    Calls Tryd.prog 56 #[.slice (some ⟨mb, 0, none⟩) n mc, rv, cv] w fun e w' => e = .returned (.int .i64 (det (ent A) rows cols)) ∧ Chg (fun _ => False) w w' := by
  intro rows
  induction rows with
  | nil =>
    intro cols hcl _ _ _ rv cv w hm hr hc
    obtain ⟨ao, g, off, c, rfl, h2, h3, h4⟩ := hr
    clear hm hc h3 h4
    go_enter Tryd.func56, Tryd.ntmps56
    go_wp2_with fail
    go_ret
    exact ⟨rfl, Chg.refl _ _⟩
  | cons r rows ih =>
    intro cols hcl hrl hr hc rv cv w hm hrv hcv
    obtain ⟨ao, g, off, c, rfl, h2, h3, h4⟩ := hrv
    obtain ⟨bo, g2, off2, c2, rfl, k2, k3, k4⟩ := hcv
    obtain rfl : ao = some ⟨g, off, none⟩ := h3.resolve_left (by simp)
    have hcne : cols ≠ [] := by intro e; subst e; simp at hcl
    obtain rfl : bo = some ⟨g2, off2, none⟩ := k3.resolve_left hcne
    clear h3 k3
    have HIH := Lib.hid ih
    have HM := Lib.hid hm
    have HR := Lib.hid h4
    have HCS := Lib.hid k4
    have HRL := Lib.hid hr
    have HCL := Lib.hid hc
    have HE := Lib.hid hcl
    simp only [List.length_cons] at hcl hrl h2 ⊢
    obtain ⟨m, hm0⟩ : ∃ m, rows.length = m := ⟨_, rfl⟩
    rw [hm0] at hcl hrl h2 ⊢
    rw [hcl] at k2 ⊢
    clear ih hm h4 k4 hr hc
    go_enter Tryd.func56, Tryd.ntmps56
    go_wp2_with fail
    obtain ⟨T, hT⟩ : ∃ T : Nat → Int, (fun j => sgn j * ent A r (at0 cols j) * det (ent A) rows (cols.eraseIdx j)) = T := ⟨_, rfl⟩
    have HT := Lib.hid hT
    have HTB := Lib.hid (show ∀ j, (T j).natAbs ≤ 8 * 56 ^ 5 from fun j => by
      rw [← hT]
      show (sgn j * ent A r (at0 cols j) * det (ent A) rows (cols.eraseIdx j)).natAbs ≤ _
      rw [Int.mul_assoc, sgn_abs]
      refine nat_mul_abs (hb _ _) (Nat.le_trans (det_bound hb rows _ ?_) (Nat.pow_le_pow_right (by omega) (by omega)))
      have := (List.eraseIdx_sublist cols j).length_le
      omega)
    have HD := Lib.hid (show det (ent A) (r :: rows) cols = sumI T (List.range (m + 1)) by rw [det, ex_sumI, hcl, ← hT])
    clear hT
    go_loopg [7, 8, 9] (m + 1) (fun gm sv gv iv wr => ∃ i : Nat, i ≤ m + 1 ∧ gm = m + 1 - i ∧ sv = .int .i64 (sumI T (List.range i)) ∧ gv = .int .i64 (sgn i) ∧ iv = .int .i64 (i : Int) ∧ Chg (fun _ => False) w wr)
    case atStart => exact ⟨0, by omega, by omega, rfl, rfl, rfl, Chg.refl _ _⟩
    case round =>
      obtain ⟨i, hi, rfl, rfl, rfl, rfl, hch⟩ := hrel
      have HCH := Lib.hid hch
      clear hch
      by_cases him : i < m + 1
      · have d0 : decide ((i : Int) < (m : Int) + 1) = true := by simp; omega
        have hic2 : i ≤ c2 := by omega
        have HSRC1 : Hid (cols.take i = [] ∨ ∃ x y, some (⟨g2, off2, none⟩ : Addr) = some ⟨x, y, none⟩ ∧ NatsAt wr x y (cols.take i)) := Lib.hid (.inr ⟨_, _, rfl, nats_take (HCS.out.chg HCH.out (fun x => x)) i⟩)
        have hlt1 : (cols.take i).length = i := by rw [List.length_take]; omega
        have HLT1 := Lib.hid hlt1
        clear hlt1
        have HSRC2 : ∀ w1, Chg (fun k => wr.heap.size ≤ k) wr w1 → Hid (∃ x y, some (⟨g2, off2 + (i + 1), none⟩ : Addr) = some ⟨x, y, none⟩ ∧ NatsAt w1 x y (cols.drop (i + 1))) := fun w1 hc => Lib.hid ⟨_, _, rfl, nats_drop (HCS.out.chg (HCH.out.trans hc (fun b hb => .inr (Nat.le_trans HCH.out.size hb))) (fun x => x)) (i + 1)⟩
        have hlt2 : (cols.drop (i + 1)).length = m + 1 - (i + 1) := by rw [List.length_drop]; omega
        have HLT2 := Lib.hid hlt2
        clear hlt2
        have HER := Lib.hid (List.eraseIdx_eq_take_drop_succ cols i)
        go_upto_region 9 with (at_builtin; refine wpList_app rfl (.tmp 20) (.tmp 23) rfl wr.heap.size (.slice none 0 0) [] (cols.take i) (by simp [Act.eval]) (World.ownsRow_nil wr _ 3 1) (some ⟨g2, off2, none⟩) c2 (by rw [HLT1.out]; simp [Act.eval]) HSRC1.out (by rw [HLT1.out]; simp; omega) (Nat.le_refl _) ?_; intro v1 w1 hown1 hc1)
        go_cut [10] from 25 to 30 (fun rv wx => SlN wx rv (cols.eraseIdx i) ∧ Chg (fun _ => False) wr wx)
        case first =>
          by_cases hcc : i + 1 = c2
          · obtain rfl : i = m := by omega
            subst hcc
            go_wp2_with (at_builtin; refine wpList_app rfl (.tmp 25) (.tmp 29) rfl wr.heap.size v1 (cols.take i) [] (by simp [Act.eval]) hown1 (some ⟨g2, off2, none⟩) 0 (by simp [Act.eval]) (.inl rfl) (by rw [HLT1.out]; simp; omega) hc1.size ?_; intro v2 w2 hown2 hc2)
            go_meet
            case rel =>
              have e : cols.eraseIdx i = cols.take i ++ [] := by rw [HER.out, List.drop_eq_nil_of_le (by have := HE.out; simp at this; omega)]
              rw [e]
              exact ⟨sln_of_owns hown2, chg_new hc1 hc2⟩
          · go_wp2_with (at_builtin; refine wpList_app rfl (.tmp 25) (.tmp 29) rfl wr.heap.size v1 (cols.take i) (cols.drop (i + 1)) (by simp [Act.eval]) hown1 (some ⟨g2, off2 + (i + 1), none⟩) (c2 - (i + 1)) (by rw [HLT2.out]; simp [Act.eval]) (.inr (HSRC2 w1 hc1).out) (by rw [HLT1.out, HLT2.out]; omega) hc1.size ?_; intro v2 w2 hown2 hc2)
            go_meet
            case rel => 
              rw [HER.out]
              exact ⟨sln_of_owns hown2, chg_new hc1 hc2⟩
        case rest =>
          obtain ⟨hsl, hcx⟩ := hcut
          have hC := HCH.out.trans hcx (fun _ x => x.elim)
          have HCX := Lib.hid hC
          have hx : at0 cols i < n := HCL.out _ (at0_mem (by have := HE.out; simp at this; omega))
          have hrn : r < n := HRL.out r (by simp)
          obtain ⟨rg, rc, q1, q2⟩ := (HM.out.chg hC) r hrn
          have q3 := q2 _ hx
          have q4 := nats_at (HR.out.chg hC (fun x => x)) (i := 0) (by simp)
          have q5 := nats_at (HCS.out.chg hC (fun x => x)) (i := i) (by have := HE.out; simp at this; omega)
          have hTi : T i = sgn i * ent A r (at0 cols i) * det (ent A) rows (cols.eraseIdx i) := by rw [← HT.out]
          have HCALL := Lib.hid (fun (rv' : Value) (h : SlN wc rv' rows) (w' : World) (hc' : Chg (fun _ => False) wc w') => HIH.out (cols.eraseIdx i) (by rw [List.length_eraseIdx]; have := HE.out; simp at this; split <;> omega) (by omega) (fun y hy => HRL.out y (by simp [hy])) (fun y hy => HCL.out y (List.mem_of_mem_eraseIdx hy)) rv' u10 w' ((HM.out.chg hC).chg hc') (h.chg hc') (hsl.chg hc'))
          have HTAIL := Lib.hid (nats_drop (HR.out.chg hC (fun x => x)) 1)
          rw [show at0 (r :: rows) 0 = r from rfl, Nat.add_zero] at q4
          have HDB := Lib.hid (det_bound hb rows (cols.eraseIdx i) (by rw [List.length_eraseIdx]; have := HE.out; simp at this; split <;> omega))
          have HEB := Lib.hid (hb r (at0 cols i))
          have HPB := Lib.hid (sumI_bound T _ HTB.out i)
          have HPN := Lib.hid (sumI_range T i)
          have HSG := Lib.hid (sgn_cases i)
          obtain ⟨d, hd⟩ : ∃ d, det (ent A) rows (cols.eraseIdx i) = d := ⟨_, rfl⟩
          obtain ⟨x, hxx⟩ : ∃ x, at0 cols i = x := ⟨_, rfl⟩
          rw [hxx] at q3 q5 hx hTi HEB
          rw [hd] at hTi HDB
          have hd2 := hd
          rw [hd] at HCALL
          obtain ⟨e, he⟩ : ∃ e, ent A r x = e := ⟨_, rfl⟩
          rw [he] at q3 hTi HEB
          obtain ⟨sg, hsg⟩ : ∃ sg, sgn i = sg := ⟨_, rfl⟩
          rw [hsg] at hTi HSG ⊢
          obtain ⟨ps, hps⟩ : ∃ ps, sumI T (List.range i) = ps := ⟨_, rfl⟩
          rw [hps] at HPB HPN ⊢
          have HTI := Lib.hid hTi
          have HSGN := Lib.hid hsg
          clear hd hd2 hxx he hsg hps hTi q2 hcx hsl hC
          have b1 : (0 : Int) ≤ (i : Int) := by omega
          have b2 : (i : Int) ≤ (m : Int) := by omega
          have b3 : (0 : Int) ≤ (r : Int) := by omega
          have b4 : (r : Int) < (n : Int) := by omega
          have b5 : (0 : Int) ≤ (x : Int) := by omega
          have b6 : (x : Int) < (n : Int) := by omega
          have b7 : (i : Int) < (m : Int) + 1 := by omega
          have b9 : (1 : Int) ≤ (c : Int) := by omega
          have b10 : 1 ≤ c := by omega
          have b12 : (1 : Int) ≤ (m : Int) + 1 := by omega
          go_upto_region 10 with (fail)
          go_cut [7] from 31 to 52 (fun sv wx => (∃ z, sv = .int .i64 z ∧ z = IntKind.i64.wrap (ps + IntKind.i64.wrap (IntKind.i64.wrap (sg * e) * d))) ∧ Chg (fun _ => False) wc wx)
          case first =>
            have hk0 : K4 wc wc.drew g off r mb rg n rc g2 (off2 + i) x e := ⟨q4, q1, q5, q3, (Chg.refl _ wc).drew⟩
            by_cases hc1 : c = 1
            · obtain rfl : m = 0 := by omega
              subst hc1
              have b13 : (i : Int) < 1 := by omega
              have b14 : i < 1 := by omega
              have hrow : SlN wc (.slice (some ⟨g, off, none⟩) 0 0) rows := ⟨_, g, off, 0, by rw [List.eq_nil_of_length_eq_zero hm0]; rfl, by omega, .inl (List.eq_nil_of_length_eq_zero hm0), fun k hk => by omega⟩
              go_region_held3 (fun w' => w'.cell? ⟨g, off, none⟩ = some (.int .i64 (r : Nat)) ∧ w'.cell? ⟨mb, r, none⟩ = some (.slice (some ⟨rg, 0, none⟩) n rc) ∧ w'.cell? ⟨g2, off2 + i, none⟩ = some (.int .i64 (x : Nat)) ∧ w'.cell? ⟨rg, x, none⟩ = some (.int .i64 e) ∧ Chg (fun _ => False) wc w')
                (first | exact ⟨hk0.a, hk0.b, hk0.d, hk0.f, hk0.c⟩ | exact ⟨(hk0.chg hc2).a, (hk0.chg hc2).b, (hk0.chg hc2).d, (hk0.chg hc2).f, (hk0.chg hc2).c⟩)
                (first | (go_at_call 56; refine (HCALL.out _ hrow _ hk0.c).mono ?_; rintro e2 w2 ⟨rfl, hc2⟩))
              all_goals
                go_wp2_with fail
                go_meet
                case rel => exact ⟨⟨_, rfl, rfl⟩, (Chg.refl _ wc).drew.trans hc2 (fun _ x => x.elim)⟩
            · have b13 : ¬ 1 = c := fun x => hc1 x.symm
              have hrow : SlN wc (.slice (some ⟨g, off + 1, none⟩) m (c - 1)) rows := ⟨_, g, off + 1, c - 1, by rw [hm0], by omega, .inr rfl, HTAIL.out⟩
              go_region_held3 (fun w' => w'.cell? ⟨g, off, none⟩ = some (.int .i64 (r : Nat)) ∧ w'.cell? ⟨mb, r, none⟩ = some (.slice (some ⟨rg, 0, none⟩) n rc) ∧ w'.cell? ⟨g2, off2 + i, none⟩ = some (.int .i64 (x : Nat)) ∧ w'.cell? ⟨rg, x, none⟩ = some (.int .i64 e) ∧ Chg (fun _ => False) wc w')
                (first | exact ⟨hk0.a, hk0.b, hk0.d, hk0.f, hk0.c⟩ | exact ⟨(hk0.chg hc2).a, (hk0.chg hc2).b, (hk0.chg hc2).d, (hk0.chg hc2).f, (hk0.chg hc2).c⟩)
                (first | (go_at_call 56; refine (HCALL.out _ hrow _ hk0.c).mono ?_; rintro e2 w2 ⟨rfl, hc2⟩))
              all_goals
                go_wp2_with fail
                go_meet
                case rel => exact ⟨⟨_, rfl, rfl⟩, (Chg.refl _ wc).drew.trans hc2 (fun _ x => x.elim)⟩
          case rest =>
            obtain ⟨⟨z, rfl, hz⟩, hcy⟩ := hcut
            have hz2 : z = sumI T (List.range (i + 1)) := by
              have hT := HTB.out i
              have h1 := HTI.out
              have h2 := HPB.out
              have h3 := HEB.out
              have h56 : (56 : Nat) ^ 5 = 550731776 := by decide
              rw [h56] at hT h2
              rw [HPN.out, hz]
              have k1 : (sg * e).natAbs ≤ 8 := by rcases HSG.out with h | h <;> rw [h] <;> omega
              rw [i64_small (x := sg * e) (by omega), ← h1, i64_small (x := T i) (by omega), i64_small (by omega)]
            subst hz2
            have HCY := Lib.hid (HCX.out.trans hcy (fun _ x => x.elim))
            have hng : IntKind.i64.wrap (-sg) = sgn (i + 1) := by
              rw [sgn_succ, HSGN.out]
              exact i64_small (by rcases HSG.out with h | h <;> rw [h] <;> decide)
            clear hz hcy q1 q3 q4 q5 hx hrn HCALL HTAIL HDB HEB HPB HPN HTI
            go_wp2_with fail
            go_roundg (m + 1 - (i + 1))
            case measure => omega
            case rel => exact ⟨i + 1, by omega, rfl, by go_num, rfl, by go_num, HCY.out⟩
      · obtain rfl : i = m + 1 := by omega
        go_wp2_with fail
        go_ret
        exact ⟨by rw [HD.out]; rfl, HCH.out⟩
end Go.Proofs.YtilacamhjibneaaDoor
