/- Texts on the vines, laid together (V115, V116, V117, V118, V119, V120). Their conditions are their premises. -/
import Derived.Test.YtilacamhjibneaaDoorK17
import Derived.Test.YtilacamhjibneaaDoorK7
import Derived.Test.YtilacamhjibneaaDoorK14
import Derived.Test.YtilacamhjibneaaDoorK11
import Derived.Test.YtilacamhjibneaaDoorK10
import Derived.Test.YtilacamhjibneaaDoorK9
set_option linter.unusedVariables false
/- differences and lengths, walked. Their conditions are their premises. -/
namespace Go.Proofs.YtilacamhjibneaaDoor
open Go.RowKit

def iv (X : List Int) : List Value := X.map (Value.int .i64)
theorem iv_app (X Y : List Int) : iv (X ++ Y) = iv X ++ iv Y := by simp [iv]
/-- One number behind a slice of the call's own. -/
theorem wpList_appI {w : World} {ops : Array Oper} {rest : List Oper} {o : Oper} {a : Act} {Q : Exit → Act → World → Prop} (hgd : o.guard = none) (sl x : Operand)
    (ho : o.op = .call { callee := .builtin .append, args := #[sl, x], argTypes := #[29, 29] }) (base : Nat) (v : Value) (X : List Int) (y : Int) (hs : a.eval sl = v) (hown : w.ownsRow base 3 1 v X.length (iv X))
    (g off c : Nat) (hx : a.eval x = .slice (some ⟨g, off, none⟩) 1 c) (hsrc : w.cell? ⟨g, off, none⟩ = some (.int .i64 y)) (hl : X.length + 1 ≤ 100000) (hb : base ≤ w.heap.size)
    (hK : ∀ v' w', w'.ownsRow base 3 1 v' (X ++ [y]).length (iv (X ++ [y])) → Chg (fun k => base ≤ k) w w' → wpList Tryd.prog ops Q rest (a.put o.dst v') w') : wpList Tryd.prog ops Q (o :: rest) a w := by
  obtain ⟨i0, h0, h1, h2, h3⟩ := info_parts info3
  refine wpList_append_two hgd sl x 29 ho base 3 i0 _ 1 8 Tryd.underlying29 h0 h1 h2 h3 rfl (by decide) v X.length (iv X) hs hown ⟨g, off, none⟩ 1 c [.int .i64 y] hx rfl ?_ ?_ (by unfold maxLen; omega) (by omega) hb ?_
  · intro j u hj
    match j, hj with
    | 0, hj => simp at hj; subst hj; rw [add_plain]; exact hsrc
  · intro u hu; simp at hu; subst hu; rfl
  · intro v' w' r1 r2 r3
    refine hK v' w' (by rw [List.length_append, iv_app]; exact r1) ((Chg.of_grownRow r2).mono (fun k hk => ?_))
    rcases hown.2 with ⟨rfl, _⟩ | ⟨g, cc, cur, rfl, hg, _⟩
    · simp [Value.ownBlock] at hk
    · simp [Value.ownBlock] at hk
      subst hk
      exact hg
theorem step_appI {w : World} {ops : Array Oper} {o : Oper} {a : Act} {K : Act → World → Prop} {Q : Exit → Act → World → Prop} {E : Prop} (hgd : o.guard = none) (sl x : Operand)
    (ho : o.op = .call { callee := .builtin .append, args := #[sl, x], argTypes := #[29, 29] }) (base : Nat) (v : Value) (X : List Int) (y : Int) (hs : a.eval sl = v) (hown : w.ownsRow base 3 1 v X.length (iv X))
    (g off c : Nat) (hx : a.eval x = .slice (some ⟨g, off, none⟩) 1 c) (hsrc : w.cell? ⟨g, off, none⟩ = some (.int .i64 y)) (hl : X.length + 1 ≤ 100000) (hb : base ≤ w.heap.size)
    (hK : ∀ v' w', w'.ownsRow base 3 1 v' (X ++ [y]).length (iv (X ++ [y])) → Chg (fun k => base ≤ k) w w' → K (a.put o.dst v') w') : if Region.wanted o (yielded ops a.tmps) = true then Oper.wp Tryd.prog o a w K Q else E := by
  obtain ⟨i0, h0, h1, h2, h3⟩ := info_parts info3
  refine step_append_two hgd sl x 29 ho base 3 i0 _ 1 8 Tryd.underlying29 h0 h1 h2 h3 rfl (by decide) v X.length (iv X) hs hown ⟨g, off, none⟩ 1 c [.int .i64 y] hx rfl ?_ ?_ (by unfold maxLen; omega) (by omega) hb ?_
  · intro j u hj
    match j, hj with
    | 0, hj => simp at hj; subst hj; rw [add_plain]; exact hsrc
  · intro u hu; simp at hu; subst hu; rfl
  · intro v' w' r1 r2 r3
    refine hK v' w' (by rw [List.length_append, iv_app]; exact r1) ((Chg.of_grownRow r2).mono (fun k hk => ?_))
    rcases hown.2 with ⟨rfl, _⟩ | ⟨g, cc, cur, rfl, hg, _⟩
    · simp [Value.ownBlock] at hk
    · simp [Value.ownBlock] at hk
      subst hk
      exact hg
theorem sli_of_iv {w : World} {base : Nat} {v : Value} {X : List Int} (h : w.ownsRow base 3 1 v X.length (iv X)) : SlI w v X := by
  obtain ⟨ao, g, c, h1, h2, h3, _⟩ := owns_list h
  exact ⟨ao, g, 0, c, h1, h2, h3⟩

def dfT (X : List Int) : Nat → List Int
  | 0 => []
  | k + 1 => dfT X k ++ [X[k + 1]?.getD 0 - X[k]?.getD 0]
theorem dfT_len (X : List Int) : ∀ k, (dfT X k).length = k
  | 0 => rfl
  | k + 1 => by rw [dfT, List.length_append, dfT_len X k]; rfl
def dfL (X : List Int) : List Int := dfT X (X.length - 1)

set_option maxRecDepth 100000 in
set_option maxHeartbeats 1000000 in
theorem diff_any (X : List Int) (v : Value) (w : World) (hX : SlI w v X) (h1 : 1 ≤ X.length) (hl : X.length ≤ 1000) (hb : ∀ x ∈ X, -1152921504606846976 ≤ x ∧ x ≤ 1152921504606846976) :
    Calls Tryd.prog 45 #[v] w fun e w' => (∃ v', e = .returned v' ∧ SlI w' v' (dfL X)) ∧ Chg (fun _ => False) w w' := by
  obtain ⟨ao, g, off, c, rfl, ha, hI⟩ := hX
  obtain rfl := ha.resolve_left (fun e => by rw [e] at h1; simp at h1)
  have HI := Lib.hid hI; have HB := Lib.hid hb
  obtain ⟨n, hn⟩ : ∃ n, X.length = n + 1 := ⟨X.length - 1, by omega⟩
  have HN := Lib.hid hn
  have HD := Lib.hid (show dfL X = dfT X n by unfold dfL; rw [hn]; rfl)
  obtain ⟨N, hN⟩ : ∃ N, n + 1 = N := ⟨_, rfl⟩
  rw [hn, hN]
  rw [hn, hN] at hl
  have HNN := Lib.hid hN
  have hnN : n < N := by omega
  clear hI hb hn h1 hN
  go_enter Tryd.func45, Tryd.ntmps45
  go_wp2_with fail
  go_loopg [3, 4] n (fun gm ov iv' wr => ∃ k : Nat, k ≤ n ∧ gm = n - k ∧ iv' = .int .i64 ((k + 1 : Nat) : Int) ∧ wr.ownsRow w.heap.size 3 1 ov (dfT X k).length (iv (dfT X k)) ∧ Chg (fun _ => False) w wr)
  case atStart => exact ⟨0, by omega, by omega, rfl, World.ownsRow_nil w _ 3 1, Chg.refl _ _⟩
  case round =>
    obtain ⟨k, hk, rfl, rfl, how, hc⟩ := hrel
    have HOW := Lib.hid how; have HC := Lib.hid hc
    clear how hc
    obtain ⟨K, hK⟩ : ∃ K, k + 1 = K := ⟨_, rfl⟩
    have HKE := Lib.hid hK
    by_cases hkn : k < n
    · have hKX : K < X.length := by rw [HN.out]; omega
      have hkX : k < X.length := by rw [HN.out]; omega
      have q1 := (HI.out.chg HC.out (fun x => x)) K hKX
      have q2 := (HI.out.chg HC.out (fun x => x)) k hkX
      have hb1 := HB.out _ (List.getElem_mem hKX)
      have hb2 := HB.out _ (List.getElem_mem hkX)
      have HNX := Lib.hid (show dfT X (k + 1) = dfT X k ++ [X[K] - X[k]] by rw [dfT, hK, List.getElem?_eq_getElem hKX, List.getElem?_eq_getElem hkX]; rfl)
      have HLN := Lib.hid (dfT_len X k)
      obtain ⟨p, hp⟩ : ∃ p, X[K] = p := ⟨_, rfl⟩
      obtain ⟨q, hq⟩ : ∃ q, X[k] = q := ⟨_, rfl⟩
      rw [hp] at q1 hb1 HNX
      rw [hq] at q2 hb2 HNX
      have d0 : decide (K < N) = true := by have := HNN.out; simp; omega
      have hKI : (K : Int) - 1 = (k : Int) := by omega
      have hKN : (K : Int) < (N : Int) := by have := HNN.out; omega
      have hkN : (k : Int) < (N : Int) := by have := HNN.out; omega
      have hk0 : (0 : Int) ≤ (k : Int) := by omega
      have hKB : K ≤ 1000 := by omega
      obtain ⟨d, hd⟩ : ∃ d, p - q = d := ⟨_, rfl⟩
      rw [hd] at HNX
      have hw1 : IntKind.i64.wrap (p - q) = d := by rw [hd]; exact IntWalk.i64_in _ (by omega)
      have hw2 : IntKind.i64.wrap ((K : Int) - 1) = (k : Int) := by rw [hKI]; exact IntWalk.i64_in _ (by omega)
      have hKK : IntKind.i64.wrap ((K : Int) + 1) = (K : Int) + 1 := IntWalk.i64_in _ (by omega)
      rw [hK]
      have HOA := Lib.hid (owns_chg HOW.out (((Chg.refl (fun _ => False) wr).drew).alloc (.cells #[.int .i64 d] 3)))
      have HOA2 := Lib.hid (owns_chg HOW.out (((Chg.refl (fun _ => False) wr).alloc (.cells #[.int .i64 d] 3)).drew))
      have HC1 := Lib.hid ((HC.out.drew).alloc (.cells #[.int .i64 d] 3))
      have HC2 := Lib.hid ((HC.out.alloc (.cells #[.int .i64 d] 3)).drew)
      have HX1 : Hid ((wr.drew.alloc (.cells #[.int .i64 d] 3)).cell? ⟨wr.heap.size, 0, none⟩ = some (.int .i64 d)) := Lib.hid ((Blk.new wr.drew #[.int .i64 d] 3).cell_some (i := 0) rfl)
      clear hK hp hq hd hKX hkX hKI
      go_wp2_with fail
      go_region_law (first
        | (refine step_appI rfl (.tmp 11) (.tmp 22) rfl w.heap.size u3 (dfT X k) d (by first | (simp [Act.eval]; done) | (simp [Act.eval]; rfl)) HOA.out wr.heap.size 0 1 (by simp [Act.eval]) HX1.out (by rw [HLN.out]; omega) HC1.out.size ?_; intro v2 w2 hown2 hc2)
        | (refine step_appI rfl (.tmp 11) (.tmp 22) rfl w.heap.size u3 (dfT X k) d (by first | (simp [Act.eval]; done) | (simp [Act.eval]; rfl)) HOA2.out wr.heap.size 0 1 (by simp [Act.eval]) HX1.out (by rw [HLN.out]; omega) HC2.out.size ?_; intro v2 w2 hown2 hc2))
      all_goals
        have HC4 := Lib.hid (chg_new (HC1.out.mono (fun _ x => x.elim)) hc2)
        have HO4 := Lib.hid hown2
        clear hown2 hc2 hw1 hw2 q1 q2
        go_wp2_with fail
        go_roundg (n - (k + 1))
        case measure => omega
        case rel => exact ⟨k + 1, by omega, rfl, by have := HKE.out; rw [← this]; go_num, by rw [HNX.out]; exact HO4.out, HC4.out⟩
    · obtain rfl : k = n := by omega
      have d0 : decide (K < N) = false := by have := HNN.out; simp; omega
      rw [hK]
      clear hK
      have HSL := Lib.hid (sli_of_iv HOW.out)
      go_wp2_with fail
      go_ret
      exact ⟨⟨_, rfl, by rw [HD.out]; exact HSL.out⟩, HC.out⟩
end Go.Proofs.YtilacamhjibneaaDoor

/- lengths, walked. Its conditions are its premises. -/
namespace Go.Proofs.YtilacamhjibneaaDoor
open Go.RowKit

/-- The lengths 60 years apart. -/
def lnS (V : List (List Nat)) (t : List Nat) (f : Nat) : Nat → List Int
  | 0 => []
  | i + 1 => lnS V t f i ++ [((gen V (f + 60 * i) t).length : Int)]
def lnB (V : List (List Nat)) (t : List Nat) (f : Nat) : Nat → Bool
  | 0 => true
  | i + 1 => lnB V t f i && decide ((gen V (f + 60 * i) t).length ≤ 1125899906842624)
theorem lnS_len (V : List (List Nat)) (t : List Nat) (f : Nat) : ∀ i, (lnS V t f i).length = i
  | 0 => rfl
  | i + 1 => by rw [lnS, List.length_append, lnS_len V t f i]; rfl
theorem lnB_bad {V : List (List Nat)} {t : List Nat} {f j : Nat} (h : ¬ (gen V (f + 60 * j) t).length ≤ 1125899906842624) : ∀ {m : Nat}, j < m → lnB V t f m = false
  | m + 1, hj => by
    rw [lnB]
    by_cases h1 : j = m
    · subst h1; rw [decide_eq_false h, Bool.and_false]
    · rw [lnB_bad h (m := m) (by omega), Bool.false_and]
theorem lnB_all {V : List (List Nat)} {t : List Nat} {f : Nat} : ∀ {m : Nat}, lnB V t f m = true → ∀ x ∈ lnS V t f m, 0 ≤ x ∧ x ≤ 1125899906842624
  | 0, _, x, hx => by simp [lnS] at hx
  | m + 1, h, x, hx => by
    rw [lnB, Bool.and_eq_true, decide_eq_true_eq] at h
    rw [lnS] at hx
    rcases List.mem_append.1 hx with h1 | h1
    · exact lnB_all h.1 x h1
    · simp at h1; subst h1; omega
def LnR (V : List (List Nat)) (t : List Nat) (f m : Nat) (w : World) (r : Ending) (w' : World) : Prop :=
  ((lnB V t f m = true ∧ ∃ v, r = .returned (.tuple #[v, .bool true]) ∧ SlI w' v (lnS V t f m)) ∨ (lnB V t f m = false ∧ r = .returned (.tuple #[.slice none 0 0, .bool false]))) ∧ Chg (fun _ => False) w w'

set_option maxRecDepth 100000 in
set_option maxHeartbeats 1000000 in
theorem lengths_any (V : List (List Nat)) (hV : WF V) (t : List Nat) (ht : ∀ c ∈ t, c < V.length) (hl : t.length ≤ 30) (f m : Nat) (hf : f ≤ 100) (hm : m ≤ 10) (b o0 cap : Nat) (w : World) (hv : VAt w b o0 V) :
    Calls Tryd.prog 44 #[.slice (some ⟨b, o0, none⟩) V.length cap, .string (str t), .int .i64 (f : Int), .int .i64 (m : Int)] w (LnR V t f m w) := by
  have HL := Lib.hid (fun (Y : Nat) (hY : Y ≤ 1000) w hv => lon_ok V hV t ht hl (Y : Int) (by unfold I64; omega) b o0 cap w hv)
  have HLV := Lib.hid (fun (Y : Nat) (hY : Y ≤ 1000) => show lonV V t (Y : Int) = if 1152921504606846976 < (gen V Y t).length then .tuple #[.int .i64 0, .int .i64 4] else .tuple #[.int .i64 ((gen V Y t).length : Nat), .int .i64 0] by
    unfold lonV
    rw [if_neg (by omega)]
    rfl)
  have HV := Lib.hid hv
  clear hV ht hv
  go_enter Tryd.func44, Tryd.ntmps44
  go_wp2_with fail
  go_loopg [10, 11] m (fun gm ov kv wr => ∃ k : Nat, k ≤ m ∧ gm = m - k ∧ kv = .int .i64 (k : Int) ∧ lnB V t f k = true ∧ wr.ownsRow w.heap.size 3 1 ov (lnS V t f k).length (iv (lnS V t f k)) ∧ Chg (fun _ => False) w wr)
  case atStart => exact ⟨0, by omega, by omega, rfl, rfl, World.ownsRow_nil w _ 3 1, Chg.refl _ _⟩
  case round =>
    obtain ⟨k, hk, rfl, rfl, hbk, how, hc⟩ := hrel
    have HBK := Lib.hid hbk; have HOW := Lib.hid how; have HC := Lib.hid hc
    clear hbk how hc
    by_cases hkm : k < m
    · have d0 : decide (k < m) = true := by simpa using hkm
      obtain ⟨Y, hY⟩ : ∃ Y, f + 60 * k = Y := ⟨_, rfl⟩
      have hYI : (f : Int) + 60 * (k : Int) = (Y : Int) := by omega
      have hY1000 : Y ≤ 1000 := by omega
      have hYW : wrap64 (60 * (k : Int)) = 60 * (k : Int) := wrap_id (x := 60 * (k : Int)) (by omega)
      have HLK := Lib.hid (HL.out Y hY1000 wr (HV.out.chg HC.out (fun x => x)))
      rw [HLV.out Y hY1000] at HLK
      have HNS := Lib.hid (show lnS V t f (k + 1) = lnS V t f k ++ [((gen V Y t).length : Int)] by rw [← hY]; rfl)
      have HNB := Lib.hid (show lnB V t f (k + 1) = (lnB V t f k && decide ((gen V Y t).length ≤ 1125899906842624)) by rw [← hY]; rfl)
      have HBD := Lib.hid (fun (h : ¬ (gen V Y t).length ≤ 1125899906842624) => lnB_bad (V := V) (t := t) (f := f) (j := k) (by rw [hY]; exact h) hkm)
      have HSL := Lib.hid (lnS_len V t f k)
      obtain ⟨L, hL⟩ : ∃ L, (gen V Y t).length = L := ⟨_, rfl⟩
      rw [hL] at HLK HNS HNB
      simp only [hL] at HBD
      clear hL hY
      by_cases hbig : 1152921504606846976 < L
      · rw [if_pos hbig] at HLK
        have HBB := Lib.hid (HBD.out (by omega))
        go_wp2_with fail
        refine HLK.out.mono ?_
        rintro e w2 ⟨rfl, hc2⟩
        have HC2 := Lib.hid (HC.out.trans hc2 (fun _ x => x.elim))
        clear hc2
        go_wp2_with fail
        go_ret2
        exact ⟨.inr ⟨HBB.out, rfl⟩, HC2.out⟩
      · rw [if_neg hbig] at HLK
        by_cases hb2 : 1125899906842624 < L
        · have HBB := Lib.hid (HBD.out (by omega))
          have e1 : (1125899906842624 : Int) < (L : Int) := by omega
          have e2 : decide (1125899906842624 < L) = true := by simpa using hb2
          go_wp2_with fail
          refine HLK.out.mono ?_
          rintro e w2 ⟨rfl, hc2⟩
          have HC2 := Lib.hid (HC.out.trans hc2 (fun _ x => x.elim))
          clear hc2
          go_wp2_with fail
          go_ret2
          exact ⟨.inr ⟨HBB.out, rfl⟩, HC2.out⟩
        · have e1 : ¬ (1125899906842624 : Int) < (L : Int) := by omega
          have e2 : decide (1125899906842624 < L) = false := by simpa using hb2
          have HB1 : Hid (lnB V t f (k + 1) = true) := Lib.hid (by rw [HNB.out, HBK.out, decide_eq_true (by omega)]; rfl)
          clear hbig hb2
          go_wp2_with fail
          refine HLK.out.mono ?_
          rintro e w2 ⟨rfl, hc2⟩
          have HC2 := Lib.hid (HC.out.trans hc2 (fun _ x => x.elim)); have HO2 := Lib.hid (owns_chg HOW.out hc2)
          clear hc2
          have HOA := Lib.hid (owns_chg HO2.out ((Chg.refl (fun _ => False) w2).alloc (.cells #[.int .i64 (L : Int)] 3)))
          have HX : Hid ((w2.alloc (.cells #[.int .i64 (L : Int)] 3)).cell? ⟨w2.heap.size, 0, none⟩ = some (.int .i64 (L : Int))) := Lib.hid ((Blk.new w2 #[.int .i64 (L : Int)] 3).cell_some (i := 0) rfl)
          have HCA := Lib.hid (HC2.out.alloc (.cells #[.int .i64 (L : Int)] 3))
          go_wp2_with (at_builtin; refine wpList_appI rfl (.tmp 35) (.tmp 37) rfl w.heap.size u10 (lnS V t f k) (L : Int) (by simp [Act.eval]) HOA.out w2.heap.size 0 1 (by simp [Act.eval]) HX.out (by rw [HSL.out]; omega) HCA.out.size ?_; intro v2 w4 hown2 hc4)
          have HC4 := Lib.hid (chg_new (HCA.out.mono (fun _ x => x.elim)) hc4)
          have HO4 := Lib.hid hown2
          clear hown2 hc4
          go_roundg (m - (k + 1))
          case measure => omega
          case rel => exact ⟨k + 1, by omega, rfl, by go_num, HB1.out, by rw [HNS.out]; exact HO4.out, HC4.out⟩
    · obtain rfl : k = m := by omega
      have d0 : decide (k < k) = false := by simp
      have HSL := Lib.hid (sli_of_iv HOW.out)
      go_wp2_with fail
      go_ret2
      exact ⟨.inl ⟨HBK.out, _, rfl, HSL.out⟩, HC.out⟩
end Go.Proofs.YtilacamhjibneaaDoor

/- doubles, walked. Its conditions are its premises. -/
namespace Go.Proofs.YtilacamhjibneaaDoor
open Go.RowKit

/-- Has the shoot the part in one of the first k years. -/
def rcF (V : List (List Nat)) (t : List Nat) (p : Nat) : Nat → Bool
  | 0 => false
  | k + 1 => rcF V t p k || (decide (parE V t k = 0) && decide (0 < (gen V k t).count p))
/-- Is it there twice. -/
def twB (V : List (List Nat)) (p y : Nat) : Bool := decide (parE V [p] y = 4) || decide (2 ≤ (gen V y [p]).count p)
/-- In one of the years 1 to k. -/
def twF (V : List (List Nat)) (p : Nat) : Nat → Bool
  | 0 => false
  | k + 1 => twF V p k || twB V p (k + 1)
def dbF (V : List (List Nat)) (t : List Nat) : Nat → Bool
  | 0 => false
  | p + 1 => dbF V t p || (rcF V t p (V.length + 1) && twF V p 36)
theorem twF_of {V : List (List Nat)} {p y : Nat} (h : twB V p (y + 1) = true) : ∀ {k : Nat}, y < k → twF V p k = true
  | k + 1, hk => by
    rw [twF]
    by_cases hy : y = k
    · subst hy; rw [h, Bool.or_true]
    · rw [twF_of h (k := k) (by omega), Bool.true_or]
theorem dbF_of {V : List (List Nat)} {t : List Nat} {p : Nat} (h1 : rcF V t p (V.length + 1) = true) (h2 : twF V p 36 = true) : ∀ {k : Nat}, p < k → dbF V t k = true
  | k + 1, hk => by
    rw [dbF]
    by_cases hp : p = k
    · subst hp; rw [h1, h2]; simp
    · rw [dbF_of h1 h2 (k := k) (by omega), Bool.true_or]
theorem rcF_of {V : List (List Nat)} {t : List Nat} {p y : Nat} (h1 : parE V t y = 0) (h2 : 0 < (gen V y t).count p) : ∀ {k : Nat}, y < k → rcF V t p k = true
  | k + 1, hk => by
    rw [rcF]
    by_cases hy : y = k
    · subst hy; rw [decide_eq_true h1, decide_eq_true h2]; simp
    · rw [rcF_of h1 h2 (k := k) (by omega), Bool.true_or]
/-- A wild letter. -/
theorem db_wild {V : List (List Nat)} (hV : WF V) {t : List Nat} (ht : ∀ c ∈ t, c < V.length) (hl : t.length ≤ 30) {c : Nat} (hc : c ∈ t) (hw : wildV V c = true) : dbF V t V.length = true := by
  obtain ⟨j, hj, ⟨y, hy, h1⟩, z, hz1, hz36, h2⟩ := wild_str hV (ht c hc) hc hw
  have h6 := hV.le
  have hsmall : (gen V y t).length ≤ 100000000 := by
    have h3 := gen_len hV y t
    have h4 : 8 ^ y ≤ 8 ^ 6 := Nat.pow_le_pow_right (by decide) (by omega)
    have h5 : 8 ^ y * t.length ≤ 8 ^ 6 * 30 := Nat.mul_le_mul h4 hl
    omega
  have hE : parE V t y = 0 := by
    unfold parE
    rw [if_neg]
    intro hb
    obtain ⟨i, h3, h4⟩ := (bigF_iff _ _).1 hb
    rw [cntL_at V t y h3] at h4
    have := List.count_le_length (l := gen V y t) (a := i)
    omega
  refine dbF_of (rcF_of hE h1 (k := V.length + 1) (by omega)) ?_ hj
  obtain ⟨x, rfl⟩ : ∃ x, z = x + 1 := ⟨z - 1, by omega⟩
  refine twF_of (y := x) ?_ (by omega)
  unfold twB
  rw [decide_eq_true h2, Bool.or_true]

set_option maxRecDepth 100000 in
set_option maxHeartbeats 1000000 in
theorem doubles_any (V : List (List Nat)) (hV : WF V) (t : List Nat) (ht : ∀ c ∈ t, c < V.length) (hl : t.length ≤ 30) (b o0 cap : Nat) (w : World) (hv : VAt w b o0 V) :
    Calls Tryd.prog 43 #[.slice (some ⟨b, o0, none⟩) V.length cap, .string (str t)] w fun e w' => e = .returned (.bool (dbF V t V.length)) ∧ Chg (fun _ => False) w w' := by
  have hn6 := hV.le
  have HP := Lib.hid (fun (Y : Nat) (hY : Y ≤ 1000) w hv => parts_is V hV t ht hl Y hY b o0 cap w hv)
  have HQ := Lib.hid (fun (p : Nat) (hp : p < V.length) (Y : Nat) (hY : Y ≤ 1000) w hv => parts_is V hV [p] (by intro c hc; simp at hc; omega) (by simp) Y hY b o0 cap w hv)
  have HV := Lib.hid hv
  obtain ⟨R, hR⟩ : ∃ R, dbF V t V.length = R := ⟨_, rfl⟩
  have HR := Lib.hid hR
  rw [hR]
  clear hV ht hv hR
  go_enter Tryd.func43, Tryd.ntmps43
  go_wp2_with fail
  go_loopg [5] V.length (fun gm pv wr => ∃ p : Nat, p ≤ V.length ∧ gm = V.length - p ∧ pv = .int .i64 (p : Int) ∧ dbF V t p = false ∧ Chg (fun _ => False) w wr)
  case atStart => exact ⟨0, by omega, by omega, rfl, rfl, Chg.refl _ _⟩
  case round =>
    obtain ⟨p, hp, rfl, rfl, hdb, hc⟩ := hrel
    have HDB := Lib.hid hdb; have HC := Lib.hid hc
    clear hdb hc
    by_cases hpn : p < V.length
    · have d0 : decide (p < V.length) = true := by simpa using hpn
      have hcv := one_str wr p (by omega)
      have HC1 := Lib.hid (HC.out.alloc (.cells #[.int .u8 (97 + (p : Int))] 5))
      have HDN := Lib.hid (show dbF V t (p + 1) = (dbF V t p || (rcF V t p (V.length + 1) && twF V p 36)) from rfl)
      have HDO := Lib.hid (fun h1 h2 => dbF_of (V := V) (t := t) (p := p) h1 h2 hpn)
      have HRC := Lib.hid (fun k => show rcF V t p (k + 1) = (rcF V t p k || (decide (parE V t k = 0) && decide (0 < (gen V k t).count p))) from rfl)
      have HPQ := Lib.hid (HQ.out p hpn)
      obtain ⟨bs, hbs⟩ : ∃ bs, str [p] = bs := ⟨_, rfl⟩
      rw [hbs] at hcv
      simp only [hbs] at HPQ
      clear hbs
      have hu8 : IntKind.u8.wrap (97 + (p : Int)) = 97 + (p : Int) := by
        simp [IntKind.wrap, IntKind.bits, IntKind.signed]
        omega
      go_wp2_with fail
      clear hcv hu8
      generalize wr.alloc (.cells #[.int .u8 (97 + (p : Int))] 5) = W1 at HC1 ⊢
      go_loopg [7, 8] (V.length + 1) (fun gm rv yv wx => ∃ k : Nat, k ≤ V.length + 1 ∧ gm = V.length + 1 - k ∧ rv = .bool (rcF V t p k) ∧ yv = .int .i64 (k : Int) ∧ Chg (fun _ => False) w wx)
      case atStart => exact ⟨0, by omega, by omega, rfl, rfl, HC1.out⟩
      case round =>
        clear HC1
        obtain ⟨k, hk, rfl, rfl, rfl, hc⟩ := hrel
        have HCX := Lib.hid hc
        clear hc
        by_cases hkn : k ≤ V.length
        · have d1 : decide (k ≤ V.length) = true := by simpa using hkn
          have HPK := Lib.hid (HP.out k (by omega) wr (HV.out.chg HCX.out (fun x => x)))
          have HRN := Lib.hid (HRC.out k)
          by_cases hbig : bigC V t k V.length = true
          · have HPE : Hid (parE V t k = 4) := Lib.hid (by unfold parE; rw [if_pos hbig])
            have HRN2 : Hid (rcF V t p (k + 1) = rcF V t p k) := Lib.hid (by rw [HRN.out, HPE.out]; simp)
            obtain ⟨X, hX⟩ : ∃ X, parX V t k = X := ⟨_, rfl⟩
            rw [HPE.out, hX] at HPK
            clear hbig hX
            obtain ⟨rc, hrc⟩ : ∃ rc, rcF V t p k = rc := ⟨_, rfl⟩
            rw [hrc] at HRN2 ⊢
            clear hrc
            cases rc
            all_goals
              go_wp2_with fail
              refine HPK.out.mono ?_
              rintro e w5 ⟨⟨vl, rfl, hsl⟩, hc5⟩
              obtain ⟨ao, g, off, c, rfl, _, _⟩ := hsl
              have HC5 := Lib.hid (HCX.out.trans hc5 (fun _ x => x.elim))
              clear hc5
              go_wp2_with fail
              go_roundg (V.length + 1 - (k + 1))
              case measure => omega
              case rel => exact ⟨k + 1, by omega, rfl, by rw [HRN2.out], by go_num, HC5.out⟩
          · have HPE : Hid (parE V t k = 0) := Lib.hid (by unfold parE; rw [if_neg hbig])
            have HPX : Hid (parX V t k = natI (cntL V t k)) := Lib.hid (by unfold parX; rw [if_neg hbig])
            rw [HPE.out, HPX.out] at HPK
            rw [HPE.out] at HRN
            have hcl : (natI (cntL V t k)).length = V.length := by rw [natI_size, cntL_len]
            have hca : ∀ h : p < (natI (cntL V t k)).length, (natI (cntL V t k))[p]'h = ((gen V k t).count p : Nat) := by
              intro h
              have h1 := cntL_at V t k hpn
              rw [at0_lt_of (by rw [cntL_len]; exact hpn)] at h1
              simp only [natI, List.getElem_map]
              rw [h1]
            obtain ⟨X, hX⟩ : ∃ X, natI (cntL V t k) = X := ⟨_, rfl⟩
            rw [hX] at HPK hcl hca
            obtain ⟨m, hm⟩ : ∃ m, (gen V k t).count p = m := ⟨_, rfl⟩
            rw [hm] at hca HRN
            clear hbig hX hm HPX
            obtain ⟨rc, hrc⟩ : ∃ rc, rcF V t p k = rc := ⟨_, rfl⟩
            rw [hrc] at HRN ⊢
            clear hrc
            have HCL := Lib.hid hcl
            have HCA := Lib.hid hca
            clear hcl hca
            cases rc
            · by_cases hm0 : 0 < m
              · have HRN2 : Hid (rcF V t p (k + 1) = true) := Lib.hid (by rw [HRN.out]; simp [hm0])
                have m1 : decide ((0 : Int) < (m : Int)) = true := by simp; omega
                have m2 : (0 : Int) < (m : Int) := by omega
                go_wp2_with fail
                refine HPK.out.mono ?_
                rintro e w5 ⟨⟨vl, rfl, hsl⟩, hc5⟩
                obtain ⟨ao, g, off, c, rfl, hao, hI⟩ := hsl
                obtain rfl := hao.resolve_left (fun e => by have h := HCL.out; rw [e] at h; simp at h; omega)
                have q1 := hI p (by rw [HCL.out]; exact hpn)
                rw [HCA.out] at q1
                rw [HCL.out]
                have HC5 := Lib.hid (HCX.out.trans hc5 (fun _ x => x.elim))
                clear hc5 hI hao
                go_wp2_with fail
                go_roundg (V.length + 1 - (k + 1))
                case measure => omega
                case rel => exact ⟨k + 1, by omega, rfl, by rw [HRN2.out], by go_num, HC5.out⟩
              · have HRN2 : Hid (rcF V t p (k + 1) = false) := Lib.hid (by rw [HRN.out]; simp [hm0])
                obtain rfl : m = 0 := by omega
                go_wp2_with fail
                refine HPK.out.mono ?_
                rintro e w5 ⟨⟨vl, rfl, hsl⟩, hc5⟩
                obtain ⟨ao, g, off, c, rfl, hao, hI⟩ := hsl
                obtain rfl := hao.resolve_left (fun e => by have h := HCL.out; rw [e] at h; simp at h; omega)
                have q1 := hI p (by rw [HCL.out]; exact hpn)
                rw [HCA.out] at q1
                rw [HCL.out]
                have HC5 := Lib.hid (HCX.out.trans hc5 (fun _ x => x.elim))
                clear hc5 hI hao
                go_wp2_with fail
                go_roundg (V.length + 1 - (k + 1))
                case measure => omega
                case rel => exact ⟨k + 1, by omega, rfl, by rw [HRN2.out], by go_num, HC5.out⟩
            · have HRN2 : Hid (rcF V t p (k + 1) = true) := Lib.hid (by rw [HRN.out]; rfl)
              go_wp2_with fail
              refine HPK.out.mono ?_
              rintro e w5 ⟨⟨vl, rfl, hsl⟩, hc5⟩
              obtain ⟨ao, g, off, c, rfl, _, _⟩ := hsl
              have HC5 := Lib.hid (HCX.out.trans hc5 (fun _ x => x.elim))
              clear hc5
              go_wp2_with fail
              go_roundg (V.length + 1 - (k + 1))
              case measure => omega
              case rel => exact ⟨k + 1, by omega, rfl, by rw [HRN2.out], by go_num, HC5.out⟩
        · obtain rfl : k = V.length + 1 := by omega
          have d1 : decide (V.length + 1 ≤ V.length) = false := by simp
          obtain ⟨rc, hrc⟩ : ∃ rc, rcF V t p (V.length + 1) = rc := ⟨_, rfl⟩
          rw [hrc] at HDN ⊢
          rw [hrc] at HDO
          clear hrc HRC
          cases rc
          · have HDN2 : Hid (dbF V t (p + 1) = false) := Lib.hid (by rw [HDN.out, HDB.out]; rfl)
            go_wp2_with fail
            go_loopg [11] 0 (fun gm yv wx => gm = 0 ∧ yv = .int .i64 1 ∧ Chg (fun _ => False) w wx)
            case atStart => exact ⟨rfl, rfl, HCX.out⟩
            case round =>
              obtain ⟨rfl, rfl, hc⟩ := hrel
              have HCY := Lib.hid hc
              clear hc
              go_wp2_with fail
              go_roundg (V.length - (p + 1))
              case measure => omega
              case rel => exact ⟨p + 1, by omega, rfl, by go_num, HDN2.out, HCY.out⟩
          · go_wp2_with fail
            go_loopg [11] 36 (fun gm yv wx => ∃ k : Nat, k ≤ 36 ∧ gm = 36 - k ∧ yv = .int .i64 ((k + 1 : Nat) : Int) ∧ twF V p k = false ∧ Chg (fun _ => False) w wx)
            case atStart => exact ⟨0, by omega, rfl, rfl, rfl, HCX.out⟩
            case round =>
              obtain ⟨k, hk, rfl, rfl, htw, hc⟩ := hrel
              have HCY := Lib.hid hc; have HTW := Lib.hid htw
              clear hc htw
              obtain ⟨K, hK⟩ : ∃ K, k + 1 = K := ⟨_, rfl⟩
              have HKE := Lib.hid hK
              rw [hK]
              by_cases hk36 : k < 36
              · have d2 : decide ((K : Int) ≤ 36) = true := by simp; omega
                have HPK := Lib.hid (HPQ.out K (by omega) wr (HV.out.chg HCY.out (fun x => x)))
                have HTN := Lib.hid (show twF V p (k + 1) = (twF V p k || twB V p K) by rw [twF, hK])
                have HTB := Lib.hid (show twB V p K = (decide (parE V [p] K = 4) || decide (2 ≤ (gen V K [p]).count p)) from rfl)
                have HTO := Lib.hid (fun (h : twB V p K = true) => HDO.out (by trivial) (twF_of (V := V) (p := p) (y := k) (by rw [hK]; exact h) hk36))
                have hKb : K ≤ 36 := by omega
                clear hK
                by_cases hbig : bigC V [p] K V.length = true
                · have HPE : Hid (parE V [p] K = 4) := Lib.hid (by unfold parE; rw [if_pos hbig])
                  have HRT : Hid (R = true) := Lib.hid (by rw [← HR.out]; exact HTO.out (by rw [HTB.out, HPE.out]; rfl))
                  obtain ⟨X, hX⟩ : ∃ X, parX V [p] K = X := ⟨_, rfl⟩
                  rw [HPE.out, hX] at HPK
                  clear hbig hX
                  go_wp2_with fail
                  refine HPK.out.mono ?_
                  rintro e w5 ⟨⟨vl, rfl, hsl⟩, hc5⟩
                  obtain ⟨ao, g, off, c, rfl, _, _⟩ := hsl
                  have HC5 := Lib.hid (HCY.out.trans hc5 (fun _ x => x.elim))
                  clear hc5
                  go_wp2_with fail
                  go_ret
                  exact ⟨by rw [HRT.out]; rfl, HC5.out⟩
                · have HPE : Hid (parE V [p] K = 0) := Lib.hid (by unfold parE; rw [if_neg hbig])
                  have HPX : Hid (parX V [p] K = natI (cntL V [p] K)) := Lib.hid (by unfold parX; rw [if_neg hbig])
                  rw [HPE.out, HPX.out] at HPK
                  rw [HPE.out] at HTB
                  have hcl : (natI (cntL V [p] K)).length = V.length := by rw [natI_size, cntL_len]
                  have hca : ∀ h : p < (natI (cntL V [p] K)).length, (natI (cntL V [p] K))[p]'h = ((gen V K [p]).count p : Nat) := by
                    intro h
                    have h1 := cntL_at V [p] K hpn
                    rw [at0_lt_of (by rw [cntL_len]; exact hpn)] at h1
                    simp only [natI, List.getElem_map]
                    rw [h1]
                  obtain ⟨X, hX⟩ : ∃ X, natI (cntL V [p] K) = X := ⟨_, rfl⟩
                  rw [hX] at HPK hcl hca
                  obtain ⟨m, hm⟩ : ∃ m, (gen V K [p]).count p = m := ⟨_, rfl⟩
                  rw [hm] at hca HTB
                  clear hbig hX hm HPX
                  have HCL := Lib.hid hcl
                  have HCA := Lib.hid hca
                  clear hcl hca
                  by_cases hm2 : 2 ≤ m
                  · have HRT : Hid (R = true) := Lib.hid (by rw [← HR.out]; exact HTO.out (by rw [HTB.out, decide_eq_true hm2]; simp))
                    have m1 : decide ((2 : Int) ≤ (m : Int)) = true := by simp; omega
                    have m2 : (2 : Int) ≤ (m : Int) := by omega
                    go_wp2_with fail
                    refine HPK.out.mono ?_
                    rintro e w5 ⟨⟨vl, rfl, hsl⟩, hc5⟩
                    obtain ⟨ao, g, off, c, rfl, hao, hI⟩ := hsl
                    obtain rfl := hao.resolve_left (fun e => by have h := HCL.out; rw [e] at h; simp at h; omega)
                    have q1 := hI p (by rw [HCL.out]; exact hpn)
                    rw [HCA.out] at q1
                    rw [HCL.out]
                    have HC5 := Lib.hid (HCY.out.trans hc5 (fun _ x => x.elim))
                    clear hc5 hI hao
                    go_wp2_with fail
                    go_ret
                    exact ⟨by rw [HRT.out]; rfl, HC5.out⟩
                  · have HTN2 : Hid (twF V p (k + 1) = false) := Lib.hid (by rw [HTN.out, HTW.out, HTB.out, decide_eq_false hm2]; rfl)
                    have m1 : decide ((2 : Int) ≤ (m : Int)) = false := by simp; omega
                    have m2 : ¬ (2 : Int) ≤ (m : Int) := by omega
                    go_wp2_with fail
                    refine HPK.out.mono ?_
                    rintro e w5 ⟨⟨vl, rfl, hsl⟩, hc5⟩
                    obtain ⟨ao, g, off, c, rfl, hao, hI⟩ := hsl
                    obtain rfl := hao.resolve_left (fun e => by have h := HCL.out; rw [e] at h; simp at h; omega)
                    have q1 := hI p (by rw [HCL.out]; exact hpn)
                    rw [HCA.out] at q1
                    rw [HCL.out]
                    have HC5 := Lib.hid (HCY.out.trans hc5 (fun _ x => x.elim))
                    clear hc5 hI hao
                    go_wp2_with fail
                    go_roundg (36 - (k + 1))
                    case measure => omega
                    case rel => exact ⟨k + 1, by omega, rfl, by have := HKE.out; rw [← this]; go_num, HTN2.out, HC5.out⟩
              · obtain rfl : k = 36 := by omega
                subst hK
                have HDN2 : Hid (dbF V t (p + 1) = false) := Lib.hid (by rw [HDN.out, HDB.out, HTW.out]; rfl)
                go_wp2_with fail
                go_roundg (V.length - (p + 1))
                case measure => omega
                case rel => exact ⟨p + 1, by omega, rfl, by go_num, HDN2.out, HCY.out⟩
    · obtain rfl : p = V.length := by omega
      have d0 : decide (V.length < V.length) = false := by simp
      have HRR : Hid (R = false) := Lib.hid (by rw [← HR.out]; exact HDB.out)
      go_wp2_with fail
      go_ret
      exact ⟨by rw [HRR.out]; rfl, HC.out⟩
end Go.Proofs.YtilacamhjibneaaDoor

/- What VineOrders asks, of the kinds: plain. Their conditions are their premises. -/
namespace Go.Proofs.YtilacamhjibneaaDoor
open Go.RowKit

theorem diI_val {V : List (List Nat)} {t : List Nat} : ∀ (f y : Nat), ¬ diI V t f y < 0 → ∃ d, d < f ∧ diI V t f y = ((y + d : Nat) : Int) ∧ (gen V (y + d) t).length = 0
  | 0, y, h => by simp [diI] at h
  | f + 1, y, h => by
    rw [diI] at h ⊢
    by_cases hg : (gen V y t).length = 0
    · rw [if_pos hg]
      exact ⟨0, by omega, by simp, by simpa using hg⟩
    · rw [if_neg hg] at h ⊢
      obtain ⟨d, h1, h2, h3⟩ := diI_val f (y + 1) h
      exact ⟨d + 1, by omega, by rw [h2]; congr 1; omega, by rw [show y + (d + 1) = y + 1 + d by omega]; exact h3⟩
theorem dieV_eq (V : List (List Nat)) (t : List Nat) : dieV V t = if diesI V t < 0 then .tuple #[.int .i64 0, .int .i64 10] else .tuple #[.int .i64 (diesI V t), .int .i64 0] := diI_dieF V t _ _
theorem mem_at {t : List Nat} {c : Nat} (h : c ∈ t) : ∃ j, j < t.length ∧ at0 t j = c := by
  obtain ⟨j, hj, e⟩ := List.getElem_of_mem h
  exact ⟨j, hj, by rw [at0_lt_of hj]; exact e⟩
/-- The three ways. -/
inductive Way (V : List (List Nat)) (t : List Nat) : Prop
  | wild (h1 : kindV V t = .tuple #[.int .i64 3, .int .i64 0, .int .i64 0]) (h2 : dieV V t = .tuple #[.int .i64 0, .int .i64 10]) (h3 : dbF V t V.length = true)
  | dead (y : Nat) (h1 : kindV V t = .tuple #[.int .i64 0, .int .i64 0, .int .i64 0]) (h2 : dieV V t = .tuple #[.int .i64 (y : Int), .int .i64 0]) (h3 : y ≤ V.length) (h4 : (gen V y t).length = 0)
  | tame (k d : Nat) (h1 : kindV V t = .tuple #[.int .i64 (k : Int), .int .i64 (d : Int), .int .i64 0]) (h2 : dieV V t = .tuple #[.int .i64 0, .int .i64 10]) (hk : k = 1 ∧ d = 0 ∨ k = 2 ∧ 1 ≤ d ∧ d < V.length)
      (h3 : ∀ y, 6 ≤ y → difn (d + 1) (fun y => ((gen V y t).length : Int)) y = 0 ∧ 1 ≤ difn d (fun y => ((gen V y t).length : Int)) y)
theorem way {V : List (List Nat)} (hV : WF V) {t : List Nat} (ht : ∀ c ∈ t, c < V.length) (hl : t.length ≤ 30) : Way V t := by
  have h6 := hV.le
  have hdn : (∃ c ∈ t, 0 < natK V c) → dieV V t = .tuple #[.int .i64 0, .int .i64 10] := by
    rintro ⟨c, hc, hk⟩
    have h1 := any_lives hV ht
    have h2 : t.any (kindP V) = true := List.any_eq_true.2 ⟨c, hc, by unfold kindP; simpa using hk⟩
    rw [h2, decide_eq_true_eq] at h1
    rw [dieV_eq, if_pos h1]
  by_cases hw : ∃ c ∈ t, wildV V c = true
  · obtain ⟨c, hc, hw⟩ := hw
    obtain ⟨j, hj, rfl⟩ := mem_at hc
    refine .wild (kind_wild hj hw) (hdn ⟨_, hc, ?_⟩) (db_wild hV ht hl hc hw)
    unfold natK
    rw [if_pos hw]
    omega
  · have hwf : ∀ c ∈ t, wildV V c = false := fun c hc => by
      cases h : wildV V c with
      | false => rfl
      | true => exact absurd ⟨c, hc, h⟩ hw
    have hat : ∀ j, j < t.length → at0 t j ∈ t := fun j hj => by rw [at0_lt_of hj]; exact List.getElem_mem hj
    have hkt := kind_tame (V := V) (t := t) (fun j hj => hwf _ (hat j hj))
    have hm := mxL_le (chF V V.length) t V.length (chF_le V V.length) t.length
    obtain ⟨m, hmm⟩ : ∃ m, mxL (chF V V.length) t t.length = m := ⟨_, rfl⟩
    rw [hmm] at hkt hm
    have hlive : 1 ≤ m → ∃ c ∈ t, 0 < natK V c := by
      intro h1
      by_cases hh : ∃ c ∈ t, 0 < natK V c
      · exact hh
      · exfalso
        have hz : ∀ k, k ≤ t.length → mxL (chF V V.length) t k = 0 := by
          intro k
          induction k with
          | zero => intro _; rfl
          | succ k ih =>
            intro hk
            have h2 := (natK_tame (hwf _ (hat k (by omega)))).2
            have h3 : natK V (at0 t k) = 0 := by
              by_cases h4 : natK V (at0 t k) = 0
              · exact h4
              · exact absurd ⟨_, hat k (by omega), by omega⟩ hh
            rw [h3] at h2
            unfold mxL
            rw [ih (by omega)]
            by_cases h5 : 1 < chF V V.length (at0 t k)
            · rw [if_pos h5] at h2; omega
            · rw [if_neg h5] at h2
              by_cases h6 : chF V V.length (at0 t k) = 1
              · rw [if_pos h6] at h2; omega
              · omega
        have := hz t.length (Nat.le_refl _)
        omega
    have hord := fun y hy => orders_str hV ht (fun c hc => tame_of hV (ht c hc) (hwf c hc)) hmm y hy
    by_cases h0 : m = 0
    · rw [if_pos h0] at hkt
      have hd : ¬ diesI V t < 0 := by
        intro h
        have h1 := any_lives hV ht
        rw [decide_eq_true h] at h1
        obtain ⟨c, hc, hk⟩ := List.any_eq_true.1 h1.symm
        obtain ⟨j, hj, rfl⟩ := mem_at hc
        have h2 := (natK_tame (hwf _ hc)).2
        have h3 := mxL_ge (g := chF V V.length) (t := t) hj
        rw [hmm, h0] at h3
        rw [if_neg (by omega), if_neg (by omega)] at h2
        unfold kindP at hk
        simp [h2] at hk
      obtain ⟨d, e1, e2, e3⟩ := diI_val _ _ hd
      rw [Nat.zero_add] at e2 e3
      refine .dead d hkt ?_ (by omega) e3
      rw [dieV_eq, if_neg hd]
      unfold diesI
      rw [e2]
    · have hv := hdn (hlive (by omega))
      rw [if_neg h0] at hkt
      by_cases h1 : m = 1
      · rw [if_pos h1] at hkt
        refine .tame 1 0 hkt hv (.inl ⟨rfl, rfl⟩) (fun y hy => ?_)
        have := hord y hy
        rw [h1] at this
        exact ⟨this.1, this.2 (by omega)⟩
      · rw [if_neg h1] at hkt
        refine .tame 2 (m - 1) ?_ hv (.inr ⟨rfl, by omega, by omega⟩) (fun y hy => ?_)
        · rw [hkt, show ((m - 1 : Nat) : Int) = (m : Int) - 1 by omega]
          rfl
        · have := hord y hy
          rw [show m - 1 + 1 = m by omega]
          exact ⟨this.1, this.2 (by omega)⟩
/-- The differences of lengths, so many times. -/
def dnT (f : Nat → Int) (a m : Nat) : List Int := (List.range m).map fun i => f (a + 60 * i)
theorem dnT_len (f : Nat → Int) (a m : Nat) : (dnT f a m).length = m := by simp [dnT]
theorem dnT_at (f : Nat → Int) (a : Nat) {m i : Nat} (h : i < m) : (dnT f a m)[i]? = some (f (a + 60 * i)) := by
  unfold dnT
  rw [List.getElem?_map, List.getElem?_range h]
  rfl
theorem dfT_dn (f : Nat → Int) (a m : Nat) : ∀ k, k < m → dfT (dnT f a m) k = dnT (dif f) a k
  | 0, _ => rfl
  | k + 1, h => by
    rw [dfT, dfT_dn f a m k (by omega), dnT_at f a h, dnT_at f a (show k < m by omega)]
    unfold dnT
    rw [List.range_succ, List.map_append]
    congr 1
theorem dfL_dn (f : Nat → Int) (a m : Nat) : dfL (dnT f a (m + 1)) = dnT (dif f) a m := by
  unfold dfL
  rw [dnT_len, Nat.add_sub_cancel]
  exact dfT_dn f a (m + 1) m (by omega)
theorem lnS_dn (V : List (List Nat)) (t : List Nat) (a : Nat) : ∀ m, lnS V t a m = dnT (fun y => ((gen V y t).length : Int)) a m
  | 0 => rfl
  | m + 1 => by
    rw [lnS, lnS_dn V t a m]
    unfold dnT
    rw [List.range_succ, List.map_append]
    rfl
/-- Differences of numbers within a bound. -/
theorem dnT_bd {f : Nat → Int} {a m : Nat} {b : Int} (h : ∀ x ∈ dnT f a (m + 1), -b ≤ x ∧ x ≤ b) : ∀ x ∈ dnT (dif f) a m, -(2 * b) ≤ x ∧ x ≤ 2 * b := by
  intro x hx
  unfold dnT at hx
  obtain ⟨i, hi, rfl⟩ := List.mem_map.1 hx
  have hi := List.mem_range.1 hi
  have h1 := h (f (a + 60 * i)) (by unfold dnT; exact List.mem_map.2 ⟨i, List.mem_range.2 (by omega), rfl⟩)
  have h2 := h (f (a + 60 * (i + 1))) (by unfold dnT; exact List.mem_map.2 ⟨i + 1, List.mem_range.2 (by omega), rfl⟩)
  show -(2 * b) ≤ f (a + 60 * i + 60) - f (a + 60 * i) ∧ f (a + 60 * i + 60) - f (a + 60 * i) ≤ 2 * b
  rw [show a + 60 * (i + 1) = a + 60 * i + 60 by omega] at h2
  omega
theorem difn_dif : ∀ (d : Nat) (f : Nat → Int), difn d (dif f) = dif (difn d f)
  | 0, f => rfl
  | d + 1, f => by
    show difn d (dif (dif f)) = _
    rw [difn_dif d (dif f)]
    rfl
end Go.Proofs.YtilacamhjibneaaDoor

/- The law VineOrders, walked, of a vine and a shoot without an error. Its conditions are its premises. -/
namespace Go.Proofs.YtilacamhjibneaaDoor
open Go.RowKit

def Bd (b : Int) (X : List Int) : Prop := ∀ x ∈ X, -b ≤ x ∧ x ≤ b
theorem pow_two_le {i : Nat} (h : i ≤ 5) : (2 : Int) ^ i ≤ 32 := by
  match i, h with
  | 0, _ => decide
  | 1, _ => decide
  | 2, _ => decide
  | 3, _ => decide
  | 4, _ => decide
  | 5, _ => decide
theorem two_str {w : World} {g o : Nat} {X : List Int} (h : IntsAt w g o X) {i : Nat} {x : Int} (hx : X[i]? = some x) : w.cell? ⟨g, o + i, none⟩ = some (.int .i64 x) := by
  obtain ⟨hi, e⟩ := List.getElem?_eq_some_iff.1 hx
  rw [← e]
  exact h i hi

set_option maxRecDepth 100000 in
set_option maxHeartbeats 1000000 in
theorem vineOrders_main (V : List (List Nat)) (hV : WF V) (t : List Nat) (ht : ∀ c ∈ t, c < V.length) (hl : t.length ≤ 30) (a : Nat) (ha : a < 256) (b o0 cap : Nat) (w : World) (hv : VAt w b o0 V) (hs : SlS w (.slice (some ⟨b, o0, none⟩) V.length cap) (V.map str)) (hfew : fewV (V.map str) (str t) = true) :
    Calls Tryd.prog 12 #[.slice (some ⟨b, o0, none⟩) V.length cap, .string (str t), .int .u8 (a : Int)] w fun e w' => e = .returned (.bool true) ∧ Chg (fun _ => False) w w' := by
  have hn6 := hV.le
  have hn1 := hV.pos
  have HF := Lib.hid (few_any (V.map str) (str t) _ w hs (by rw [str_size]; unfold maxLen; omega))
  rw [hfew] at HF
  have HK := Lib.hid (fun w hv => kind_ok V hV t ht hl b o0 cap w hv)
  have HD := Lib.hid (fun w hv => dies_ok V hV t ht hl b o0 cap w hv)
  have HV := Lib.hid hv
  rcases way hV ht hl with ⟨h1, h2, h3⟩ | ⟨y, h1, h2, h3, h4⟩ | ⟨k, d, h1, h2, hk, h3⟩
  · rw [h1] at HK
    rw [h2] at HD
    have HDB := Lib.hid (fun w hv => doubles_any V hV t ht hl b o0 cap w hv)
    rw [h3] at HDB
    clear h1 h2 h3 hV ht hv hs hfew
    go_enter Tryd.func12, Tryd.ntmps12
    go_wp2_with fail
    refine HF.out.mono ?_
    rintro e w1 ⟨rfl, rfl⟩
    go_wp2_with fail
    refine (HK.out _ HV.out).mono ?_
    rintro e w2 ⟨rfl, hc⟩
    have HC2 := Lib.hid hc
    clear hc
    go_wp2_with fail
    refine (HD.out _ (HV.out.chg HC2.out (fun x => x))).mono ?_
    rintro e w3 ⟨rfl, hc⟩
    have HC3 := Lib.hid (HC2.out.trans hc (fun _ x => x.elim))
    clear hc
    go_wp2_with fail
    refine (HDB.out _ (HV.out.chg HC3.out (fun x => x))).mono ?_
    rintro e w4 ⟨rfl, hc⟩
    have HC4 := Lib.hid (HC3.out.trans hc (fun _ x => x.elim))
    clear hc
    go_wp2_with fail
    refine (alive_any _).mono ?_
    rintro e w5 ⟨rfl, hc⟩
    have HC5 := Lib.hid (HC4.out.trans hc (fun _ x => x.elim))
    clear hc
    go_wp2_with fail
    go_ret
    exact ⟨rfl, HC5.out⟩
  · rw [h1] at HK
    rw [h2] at HD
    have HL := Lib.hid (fun w hv => lon_ok V hV t ht hl (y : Int) (by unfold I64; omega) b o0 cap w hv)
    have hlv : lonV V t (y : Int) = .tuple #[.int .i64 0, .int .i64 0] := by
      unfold lonV
      rw [if_neg (by omega)]
      show (if 1152921504606846976 < (gen V y t).length then _ else Value.tuple #[.int .i64 ((gen V y t).length : Nat), .int .i64 0]) = _
      rw [h4, if_neg (by omega)]
      rfl
    rw [hlv] at HL
    have hyn : decide (V.length < y) = false := by simp; omega
    clear h1 h2 h4 hlv hV ht hv hs hfew
    go_enter Tryd.func12, Tryd.ntmps12
    go_wp2_with fail
    refine HF.out.mono ?_
    rintro e w1 ⟨rfl, rfl⟩
    go_wp2_with fail
    refine (HK.out _ HV.out).mono ?_
    rintro e w2 ⟨rfl, hc⟩
    have HC2 := Lib.hid hc
    clear hc
    go_wp2_with fail
    refine (HD.out _ (HV.out.chg HC2.out (fun x => x))).mono ?_
    rintro e w3 ⟨rfl, hc⟩
    have HC3 := Lib.hid (HC2.out.trans hc (fun _ x => x.elim))
    clear hc
    go_wp2_with fail
    refine (HL.out _ (HV.out.chg HC3.out (fun x => x))).mono ?_
    rintro e w4 ⟨rfl, hc⟩
    have HC4 := Lib.hid (HC3.out.trans hc (fun _ x => x.elim))
    clear hc
    go_wp2_with fail
    refine (alive_any _).mono ?_
    rintro e w5 ⟨rfl, hc⟩
    have HC5 := Lib.hid (HC4.out.trans hc (fun _ x => x.elim))
    clear hc
    go_wp2_with fail
    go_ret
    exact ⟨rfl, HC5.out⟩
  · rw [h1] at HK
    rw [h2] at HD
    have hd5 : d ≤ 5 := by omega
    obtain ⟨m, hm⟩ : ∃ m, d + 3 = m := ⟨_, rfl⟩
    have hmI : (d : Int) + 3 = (m : Int) := by omega
    obtain ⟨x, hx⟩ : ∃ x, a % 60 = x := ⟨_, rfl⟩
    have hxI : (a : Int) % 60 = (x : Int) := by omega
    have hx59 : x ≤ 59 := by omega
    obtain ⟨f, hf⟩ : ∃ f, 6 + x = f := ⟨_, rfl⟩
    have hfI : 6 + (x : Int) = (f : Int) := by omega
    have HLN := Lib.hid (fun w hv => lengths_any V hV t ht hl f m (by omega) (by omega) b o0 cap w hv)
    have HM := Lib.hid hm
    have HSD := Lib.hid (lnS_dn V t f m)
    obtain ⟨F, hF⟩ : ∃ F : Nat → Int, (fun y => ((gen V y t).length : Int)) = F := ⟨_, rfl⟩
    rw [hF] at HSD
    simp only [hF] at h3
    have HT3 : Hid (∃ c : Int, 1 ≤ c ∧ dnT (difn d F) f 3 = [c, c, c]) := Lib.hid (by
      have e0 := h3 f (by omega)
      have e1 := h3 (f + 60) (by omega)
      have q0 : difn (d + 1) F f = difn d F (f + 60) - difn d F f := difn_succ d F f
      have q1 : difn (d + 1) F (f + 60) = difn d F (f + 60 + 60) - difn d F (f + 60) := difn_succ d F (f + 60)
      refine ⟨difn d F f, e0.2, ?_⟩
      have r1 : difn d F (f + 60) = difn d F f := by omega
      have r2 : difn d F (f + 60 + 60) = difn d F f := by omega
      show [difn d F (f + 60 * 0), difn d F (f + 60 * 1), difn d F (f + 60 * 2)] = _
      rw [show f + 60 * 0 = f by omega, show f + 60 * 1 = f + 60 by omega, show f + 60 * 2 = f + 60 + 60 by omega, r1, r2])
    have HLA := Lib.hid (fun h => lnB_all (V := V) (t := t) (f := f) (m := m) h)
    simp only [HSD.out] at HLA
    have hm8 : m ≤ 8 := by omega
    have hf65 : f ≤ 65 := by omega
    clear h1 h2 h3 hV ht hv hs hfew hx hf hm hF
    obtain ⟨K, hKe⟩ : ∃ K : Int, K = (k : Int) := ⟨_, rfl⟩
    rw [← hKe] at HK
    rcases hk with ⟨rfl, hd⟩ | ⟨rfl, hd1, hd2⟩
    · have e1 : ((d : Int) != 0) = false := by simpa using hd
      obtain rfl : K = 1 := hKe
      clear hd
      go_enter Tryd.func12, Tryd.ntmps12
      go_wp2_with fail
      refine HF.out.mono ?_
      rintro e w1 ⟨rfl, rfl⟩
      go_wp2_with fail
      refine (HK.out _ HV.out).mono ?_
      rintro e w2 ⟨rfl, hc⟩
      have HC2 := Lib.hid hc
      clear hc
      go_wp2_with fail
      refine (HD.out _ (HV.out.chg HC2.out (fun x => x))).mono ?_
      rintro e w3 ⟨rfl, hc⟩
      have HC3 := Lib.hid (HC2.out.trans hc (fun _ x => x.elim))
      clear hc
      go_wp2_with fail
      refine (HLN.out _ (HV.out.chg HC3.out (fun x => x))).mono ?_
      rintro e w4 ⟨hr, hc⟩
      have HC4 := Lib.hid (HC3.out.trans hc (fun _ x => x.elim))
      clear hc
      rcases hr with ⟨hb, v4, rfl, hsl⟩ | ⟨hb, rfl⟩
      · rw [HSD.out] at hsl
        have HS4 := Lib.hid hsl
        have HB4 : Hid (Bd (1125899906842624 * 2 ^ 0) (dnT F f m)) := Lib.hid (fun x hx => by have := HLA.out hb x hx; omega)
        clear hsl hb
        go_wp2_with fail
        go_loopg [14, 16] d (fun gm lv iv' wr => ∃ i : Nat, i ≤ d ∧ gm = d - i ∧ iv' = .int .i64 (i : Int) ∧ SlI wr lv (dnT (difn i F) f (m - i)) ∧ Bd (1125899906842624 * 2 ^ i) (dnT (difn i F) f (m - i)) ∧ Chg (fun _ => False) w4 wr)
        case atStart => exact ⟨0, by omega, by omega, rfl, HS4.out, HB4.out, Chg.refl _ _⟩
        case round =>
          clear HS4 HB4
          obtain ⟨i, hi, rfl, rfl, hsl, hbd, hc⟩ := hrel
          have HS := Lib.hid hsl; have HB := Lib.hid hbd; have HC := Lib.hid hc
          clear hsl hbd hc
          by_cases hid : i < d
          · have d0 : decide (i < d) = true := by simpa using hid
            obtain ⟨q, hq⟩ : ∃ q, m - i = q + 1 := ⟨m - i - 1, by omega⟩
            have HNX : Hid (dfL (dnT (difn i F) f (m - i)) = dnT (difn (i + 1) F) f (m - (i + 1))) := Lib.hid (by
              rw [hq, dfL_dn, ← difn_dif, show m - (i + 1) = q by omega]
              rfl)
            have HBN : Hid (Bd (1125899906842624 * 2 ^ (i + 1)) (dnT (difn (i + 1) F) f (m - (i + 1)))) := Lib.hid (by
              have h1 := HB.out
              rw [hq] at h1
              have h2 := dnT_bd h1
              rw [← difn_dif] at h2
              intro x hx
              rw [show m - (i + 1) = q by omega] at hx
              have h3 := h2 x hx
              rw [Int.pow_succ]
              omega)
            have HDF := Lib.hid (diff_any (dnT (difn i F) f (m - i)) _ wr HS.out (by rw [dnT_len]; omega) (by rw [dnT_len]; omega) (fun x hx => by
              have h1 := HB.out x hx
              have h2 := pow_two_le (i := i) (by omega)
              omega))
            clear hq
            go_wp2_with fail
            refine HDF.out.mono ?_
            rintro e w5 ⟨⟨v5, rfl, hsl⟩, hc⟩
            rw [HNX.out] at hsl
            have HS5 := Lib.hid hsl; have HC5 := Lib.hid (HC.out.trans hc (fun _ x => x.elim))
            clear hsl hc
            go_wp2_with fail
            go_roundg (d - (i + 1))
            case measure => omega
            case rel => exact ⟨i + 1, by omega, rfl, by go_num, HS5.out, HBN.out, HC5.out⟩
          · obtain rfl : i = d := by omega
            have d0 : decide (i < i) = false := by simp
            have hmi : m - i = 3 := by have := HM.out; omega
            rw [hmi] at HS
            obtain ⟨c, hc1, hce⟩ := HT3.out
            rw [hce] at HS
            obtain ⟨ao, g, off, cc, h14, hao, hI⟩ := HS.out
            obtain rfl := hao.resolve_left (fun e => by simp at e)
            have q0 := two_str hI (i := 0) (x := c) rfl
            have q1 := two_str hI (i := 1) (x := c) rfl
            have q2 := two_str hI (i := 2) (x := c) rfl
            rw [Nat.add_zero] at q0
            have h14' : u14 = .slice (some ⟨g, off, none⟩) 3 cc := h14
            subst h14'
            have c0 : decide ((0 : Int) < c) = true := by simp; omega
            have HCW := Lib.hid (HC4.out.trans HC.out (fun _ x => x.elim))
            clear hI h14 hao hce hmi
            go_wp2_with fail
            refine wp_region_still_tail 23 (by kernel_rfl) (by kernel_rfl) ?_
            simp only [List.take_succ_cons, List.take_zero, List.drop_succ_cons, List.drop_zero]
            refine still_abs (fun W hwant hskip hnil => ?_)
            iterate 5 (refine hwant _ _ _ (wanted_none rfl) (fun K hK => ?_); go_simp; refine hK _ ?_; clear hK K)
            iterate 7 (refine hwant _ _ _ (wanted_some (b := true) (c := true) rfl (by kernel_rfl)) (fun K hK => ?_); go_simp; refine hK _ ?_; clear hK K)
            iterate 2 (refine hwant _ _ _ (wanted_none rfl) (fun K hK => ?_); go_simp; refine hK _ ?_; clear hK K)
            iterate 7 (refine hwant _ _ _ (wanted_some (b := true) (c := true) rfl (by kernel_rfl)) (fun K hK => ?_); go_simp; refine hK _ ?_; clear hK K)
            iterate 2 (refine hwant _ _ _ (wanted_none rfl) (fun K hK => ?_); go_simp; refine hK _ ?_; clear hK K)
            refine hnil _ ?_
            clear hwant hskip hnil W
            change wpList _ _ _ _ _ wr.drew
            have HCD := Lib.hid HCW.out.drew
            clear q0 q1 q2 HCW
            generalize wr.drew = W1 at HCD ⊢
            go_wp2_with fail
            refine (alive_any _).mono ?_
            rintro e w7 ⟨rfl, hc7⟩
            have HC7 := Lib.hid (HCD.out.trans hc7 (fun _ x => x.elim))
            clear hc7
            go_wp2_with fail
            go_ret
            exact ⟨rfl, HC7.out⟩
      · clear hb
        go_wp2_with fail
        refine (alive_any _).mono ?_
        rintro e w5 ⟨rfl, hc⟩
        have HC5 := Lib.hid (HC4.out.trans hc (fun _ x => x.elim))
        clear hc
        go_wp2_with fail
        go_ret
        exact ⟨rfl, HC5.out⟩
    · have e1 : decide ((d : Int) < 1) = false := by simp; omega
      have e2 : decide (V.length ≤ d) = false := by simp; omega
      obtain rfl : K = 2 := hKe
      go_enter Tryd.func12, Tryd.ntmps12
      go_wp2_with fail
      refine HF.out.mono ?_
      rintro e w1 ⟨rfl, rfl⟩
      go_wp2_with fail
      refine (HK.out _ HV.out).mono ?_
      rintro e w2 ⟨rfl, hc⟩
      have HC2 := Lib.hid hc
      clear hc
      go_wp2_with fail
      refine (HD.out _ (HV.out.chg HC2.out (fun x => x))).mono ?_
      rintro e w3 ⟨rfl, hc⟩
      have HC3 := Lib.hid (HC2.out.trans hc (fun _ x => x.elim))
      clear hc
      go_wp2_with fail
      refine (HLN.out _ (HV.out.chg HC3.out (fun x => x))).mono ?_
      rintro e w4 ⟨hr, hc⟩
      have HC4 := Lib.hid (HC3.out.trans hc (fun _ x => x.elim))
      clear hc
      rcases hr with ⟨hb, v4, rfl, hsl⟩ | ⟨hb, rfl⟩
      · rw [HSD.out] at hsl
        have HS4 := Lib.hid hsl
        have HB4 : Hid (Bd (1125899906842624 * 2 ^ 0) (dnT F f m)) := Lib.hid (fun x hx => by have := HLA.out hb x hx; omega)
        clear hsl hb
        go_wp2_with fail
        go_loopg [14, 16] d (fun gm lv iv' wr => ∃ i : Nat, i ≤ d ∧ gm = d - i ∧ iv' = .int .i64 (i : Int) ∧ SlI wr lv (dnT (difn i F) f (m - i)) ∧ Bd (1125899906842624 * 2 ^ i) (dnT (difn i F) f (m - i)) ∧ Chg (fun _ => False) w4 wr)
        case atStart => exact ⟨0, by omega, by omega, rfl, HS4.out, HB4.out, Chg.refl _ _⟩
        case round =>
          clear HS4 HB4
          obtain ⟨i, hi, rfl, rfl, hsl, hbd, hc⟩ := hrel
          have HS := Lib.hid hsl; have HB := Lib.hid hbd; have HC := Lib.hid hc
          clear hsl hbd hc
          by_cases hid : i < d
          · have d0 : decide (i < d) = true := by simpa using hid
            obtain ⟨q, hq⟩ : ∃ q, m - i = q + 1 := ⟨m - i - 1, by omega⟩
            have HNX : Hid (dfL (dnT (difn i F) f (m - i)) = dnT (difn (i + 1) F) f (m - (i + 1))) := Lib.hid (by
              rw [hq, dfL_dn, ← difn_dif, show m - (i + 1) = q by omega]
              rfl)
            have HBN : Hid (Bd (1125899906842624 * 2 ^ (i + 1)) (dnT (difn (i + 1) F) f (m - (i + 1)))) := Lib.hid (by
              have h1 := HB.out
              rw [hq] at h1
              have h2 := dnT_bd h1
              rw [← difn_dif] at h2
              intro x hx
              rw [show m - (i + 1) = q by omega] at hx
              have h3 := h2 x hx
              rw [Int.pow_succ]
              omega)
            have HDF := Lib.hid (diff_any (dnT (difn i F) f (m - i)) _ wr HS.out (by rw [dnT_len]; omega) (by rw [dnT_len]; omega) (fun x hx => by
              have h1 := HB.out x hx
              have h2 := pow_two_le (i := i) (by omega)
              omega))
            clear hq
            go_wp2_with fail
            refine HDF.out.mono ?_
            rintro e w5 ⟨⟨v5, rfl, hsl⟩, hc⟩
            rw [HNX.out] at hsl
            have HS5 := Lib.hid hsl; have HC5 := Lib.hid (HC.out.trans hc (fun _ x => x.elim))
            clear hsl hc
            go_wp2_with fail
            go_roundg (d - (i + 1))
            case measure => omega
            case rel => exact ⟨i + 1, by omega, rfl, by go_num, HS5.out, HBN.out, HC5.out⟩
          · obtain rfl : i = d := by omega
            have d0 : decide (i < i) = false := by simp
            have hmi : m - i = 3 := by have := HM.out; omega
            rw [hmi] at HS
            obtain ⟨c, hc1, hce⟩ := HT3.out
            rw [hce] at HS
            obtain ⟨ao, g, off, cc, h14, hao, hI⟩ := HS.out
            obtain rfl := hao.resolve_left (fun e => by simp at e)
            have q0 := two_str hI (i := 0) (x := c) rfl
            have q1 := two_str hI (i := 1) (x := c) rfl
            have q2 := two_str hI (i := 2) (x := c) rfl
            rw [Nat.add_zero] at q0
            have h14' : u14 = .slice (some ⟨g, off, none⟩) 3 cc := h14
            subst h14'
            have c0 : decide ((0 : Int) < c) = true := by simp; omega
            have HCW := Lib.hid (HC4.out.trans HC.out (fun _ x => x.elim))
            clear hI h14 hao hce hmi
            go_wp2_with fail
            refine wp_region_still_tail 23 (by kernel_rfl) (by kernel_rfl) ?_
            simp only [List.take_succ_cons, List.take_zero, List.drop_succ_cons, List.drop_zero]
            refine still_abs (fun W hwant hskip hnil => ?_)
            iterate 5 (refine hwant _ _ _ (wanted_none rfl) (fun K hK => ?_); go_simp; refine hK _ ?_; clear hK K)
            iterate 7 (refine hwant _ _ _ (wanted_some (b := true) (c := true) rfl (by kernel_rfl)) (fun K hK => ?_); go_simp; refine hK _ ?_; clear hK K)
            iterate 2 (refine hwant _ _ _ (wanted_none rfl) (fun K hK => ?_); go_simp; refine hK _ ?_; clear hK K)
            iterate 7 (refine hwant _ _ _ (wanted_some (b := true) (c := true) rfl (by kernel_rfl)) (fun K hK => ?_); go_simp; refine hK _ ?_; clear hK K)
            iterate 2 (refine hwant _ _ _ (wanted_none rfl) (fun K hK => ?_); go_simp; refine hK _ ?_; clear hK K)
            refine hnil _ ?_
            clear hwant hskip hnil W
            change wpList _ _ _ _ _ wr.drew
            have HCD := Lib.hid HCW.out.drew
            clear q0 q1 q2 HCW
            generalize wr.drew = W1 at HCD ⊢
            go_wp2_with fail
            refine (alive_any _).mono ?_
            rintro e w7 ⟨rfl, hc7⟩
            have HC7 := Lib.hid (HCD.out.trans hc7 (fun _ x => x.elim))
            clear hc7
            go_wp2_with fail
            go_ret
            exact ⟨rfl, HC7.out⟩
      · clear hb
        go_wp2_with fail
        refine (alive_any _).mono ?_
        rintro e w5 ⟨rfl, hc⟩
        have HC5 := Lib.hid (HC4.out.trans hc (fun _ x => x.elim))
        clear hc
        go_wp2_with fail
        go_ret
        exact ⟨rfl, HC5.out⟩
end Go.Proofs.YtilacamhjibneaaDoor

/- The law VineOrders, at any input. No condition but the arguments' ranges. -/
namespace Go.Proofs.YtilacamhjibneaaDoor
open Go.RowKit

theorem u8o_of {n : Int} (h : (Lit.int .u8 n).wf = true) : ∃ k : Nat, n = (k : Int) ∧ k < 256 := by
  have : 0 ≤ n ∧ n ≤ 255 := by simpa [Lit.wf, IntKind.min, IntKind.max, IntKind.signed, IntKind.bits] using h
  exact ⟨n.toNat, by omega, by omega⟩

set_option maxRecDepth 100000 in
set_option maxHeartbeats 1000000 in
theorem kd_err (P : List ByteArray) (s : ByteArray) (hn : P.length ≤ 1000) (hz : ∀ p ∈ P, p.size ≤ 1000) (hzs : s.size ≤ 1000) (E : Nat) (hE : errS P s = E) (hE0 : E ≠ 0) (v : Value) (w : World) (hv : SlS w v P) :
    (Calls Tryd.prog 24 #[v, .string s] w fun r w' => r = .returned (.tuple #[.int .i64 0, .int .i64 0, .int .i64 (E : Int)]) ∧ w' = w) ∧
    (Calls Tryd.prog 22 #[v, .string s] w fun r w' => r = .returned (.tuple #[.int .i64 0, .int .i64 (E : Int)]) ∧ w' = w) := by
  obtain ⟨ao, b, off, cap, rfl, hst, ha⟩ := hv.form
  have HS := Lib.hid (shot_any P s ao cap b off w hst ha hn hz hzs)
  rw [show shotV ao cap P s = .tuple #[.slice none 0 0, .int .i64 (E : Nat)] by unfold shotV; rw [hE, if_neg hE0]] at HS
  have dn : (((E : Nat) : Int) != 0) = true := by simpa using hE0
  clear hE hE0 hst ha hv
  constructor
  · go_enter Tryd.func24, Tryd.ntmps24
    go_wp2_with fail
    refine HS.out.mono ?_
    rintro e w1 ⟨rfl, rfl⟩
    go_wp2_with fail
    go_ret3
    exact ⟨rfl, rfl⟩
  · go_enter Tryd.func22, Tryd.ntmps22
    go_wp2_with fail
    refine HS.out.mono ?_
    rintro e w1 ⟨rfl, rfl⟩
    go_wp2_with fail
    go_ret2
    exact ⟨rfl, rfl⟩

set_option maxRecDepth 100000 in
set_option maxHeartbeats 1000000 in
theorem vineOrders_law (P : List ByteArray) (s : ByteArray) (a : Int) (ha : (Lit.int .u8 a).wf = true) (v : Value) (w : World) (hv : SlS w v P) (hs : s.size ≤ maxLen) :
    Calls Tryd.prog 12 #[v, .string s, .int .u8 a] w fun e w' => e = .returned (.bool true) ∧ Chg (fun _ => False) w w' := by
  obtain ⟨a, rfl, ha'⟩ := u8o_of ha
  clear ha
  have HF := Lib.hid (few_any P s v w hv hs)
  by_cases hfew : fewV P s = true
  · obtain ⟨hn, hz, hzs⟩ := few_small hfew
    by_cases he : errS P s = 0
    · obtain ⟨V, t, rfl, rfl, hV, hl, ht⟩ := shot_of he
      obtain ⟨ao, b, off, cap, rfl, hst, hao⟩ := hv.form
      have hpos := hV.pos
      obtain rfl := hao.resolve_left (fun e => by have h0 := congrArg List.length e; rw [List.length_map, List.length_nil] at h0; omega)
      have hva := vat_of hst
      rw [List.length_map] at hv ⊢
      exact vineOrders_main V hV t ht hl a ha' b off cap w hva hv hfew
    · rw [hfew] at HF
      obtain ⟨E, hE⟩ : ∃ E, errS P s = E := ⟨_, rfl⟩
      have hE0 : E ≠ 0 := by rw [← hE]; exact he
      have HG := Lib.hid (fun w hv => kd_err P s hn hz hzs E hE hE0 v w hv)
      have HV := Lib.hid hv
      have dn : (((E : Nat) : Int) != 0) = true := by simpa using hE0
      clear hE hE0 he hfew hn hz hv
      go_enter Tryd.func12, Tryd.ntmps12
      go_wp2_with fail
      refine HF.out.mono ?_
      rintro e w1 ⟨rfl, rfl⟩
      go_wp2_with fail
      refine ((HG.out _ HV.out).1).mono ?_
      rintro e w2 ⟨rfl, rfl⟩
      go_wp2_with fail
      refine ((HG.out _ HV.out).2).mono ?_
      rintro e w3 ⟨rfl, rfl⟩
      go_wp2_with fail
      refine (alive_any _).mono ?_
      rintro e w4 ⟨rfl, hc⟩
      have HC4 := Lib.hid hc
      clear hc
      go_wp2_with fail
      go_ret
      exact ⟨rfl, HC4.out⟩
  · have hff : fewV P s = false := by simpa using hfew
    rw [hff] at HF
    clear hfew hff hv ha'
    go_enter Tryd.func12, Tryd.ntmps12
    go_wp2_with fail
    refine HF.out.mono ?_
    rintro e w1 ⟨rfl, rfl⟩
    go_wp2_with fail
    refine (alive_any w1).mono ?_
    rintro e w2 ⟨rfl, hc2⟩
    have HC2 := Lib.hid hc2
    clear hc2
    go_wp2_with fail
    go_ret
    exact ⟨rfl, HC2.out⟩
end Go.Proofs.YtilacamhjibneaaDoor
