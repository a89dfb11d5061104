/- Texts on the vines, laid together (V41, V42, V43, V44, V45, V46, V47, V48, V49). Their conditions are their premises. -/
import Derived.Test.YtilacamhjibneaaDoorK4
import Derived.Lib.BufferRead
set_option linter.unusedVariables false
/- Bytes that grow from nothing. Their conditions are their premises. -/
namespace Go.Proofs.YtilacamhjibneaaDoor
open Go.RowKit

/-- Nothing, or bytes of the call's own. -/
def OutB (w : World) (base : Nat) (v : Value) (l : List Nat) : Prop := (v = .slice none 0 0 ∧ l = []) ∨ ∃ g c, v = .slice (some ⟨g, 0, none⟩) l.length c ∧ base ≤ g ∧ QueC w g c l.length (u8V l)
theorem OutB.chg {S : Nat → Prop} {w w' : World} {base : Nat} {v : Value} {l : List Nat} (h : OutB w base v l) (hc : Chg S w w') (hS : ∀ k, base ≤ k → ¬ S k) : OutB w' base v l := by
  rcases h with h | ⟨g, c, h1, h2, h3⟩
  · exact .inl h
  · exact .inr ⟨g, c, h1, h2, h3.chg hc (hS g h2)⟩
theorem que_of_owns {w : World} {base n : Nat} {v : Value} {xs : List Value} (h : w.ownsRow base 5 1 v n xs) (hn : 0 < n) : ∃ g c, v = .slice (some ⟨g, 0, none⟩) n c ∧ base ≤ g ∧ QueC w g c n xs := by
  obtain ⟨g, c, hv, hb, hq⟩ := QueB.of_owns h hn
  exact ⟨g, c, hv, hb, hq.lt, hq.le, by rw [hq.len, Nat.mul_one], fun j u hj => by have := hq.at_ j u hj; rwa [Nat.zero_add] at this, fun j hj => by have := hq.there j (by omega); rwa [Nat.zero_add] at this, fun j _ => hq.free j⟩
theorem run_append_out (w : World) (ty : TypeId) (base : Nat) (v : Value) (l t : List Nat) (h : OutB w base v l) (hb : base ≤ w.heap.size) (ht : ∀ c ∈ t, c < 100) (hl : l.length + t.length ≤ 140737488355328) :
    ∃ v' w', (Builtin.append_ #[52, 9] ty #[v, .string (str t)]).run Tryd.prog w = .ok v' w' ∧ OutB w' base v' (l ++ t) ∧ Chg (fun k => base ≤ k) w w' := by
  obtain ⟨i0, h0, h1, h2, h3⟩ := info_parts infoByte5
  rcases h with ⟨rfl, rfl⟩ | ⟨g, c, rfl, hg, hq⟩
  · obtain ⟨v', w', hr, ho, hgr, hnil⟩ := Lib.run_append_own_string (P := Tryd.prog) w base 52 9 ty 5 i0 Tryd.underlying52 Tryd.underlying9 h0 h1 h2 h3 (.slice none 0 0) 0 [] (World.ownsRow_nil w base 5 1) (str t) (by rw [str_size]; unfold maxLen; simp at hl; omega) (by rw [str_size]; simpa using hl) hb
    rw [str_size, strCells_str ht] at ho
    refine ⟨v', w', hr, ?_, (Chg.of_grownRow hgr).mono (fun k hk => by simp [Value.ownBlock] at hk)⟩
    cases t with
    | nil =>
      have := hnil.2 ⟨rfl, by rw [str_size]; rfl⟩
      exact .inl ⟨this, rfl⟩
    | cons a t =>
      obtain ⟨g, c, hv, hg, hq⟩ := que_of_owns ho (by simp)
      refine .inr ⟨g, c, ?_, hg, ?_⟩
      · rw [hv]; simp
      · have e : (0 + (a :: t).length) = ([] ++ a :: t).length := by simp
        rw [e] at hq
        simpa using hq
  · obtain ⟨g', c', w', hr, hq', hg', hc⟩ := run_append_str (P := Tryd.prog) w 52 9 ty 5 i0 Tryd.underlying52 Tryd.underlying9 h0 h1 h2 h3 g c l.length (u8V l) hq (str t) (by rw [str_size]; unfold maxLen; omega) (by rw [str_size]; omega)
    rw [str_size, strCells_str ht, ← u8V_app] at hq'
    rw [str_size] at hr
    refine ⟨_, w', hr, .inr ⟨g', c', by rw [List.length_append], ?_, by rw [List.length_append]; exact hq'⟩, hc.mono (fun k hk => by rw [hk]; exact hg)⟩
    rcases hg' with h | h
    · rw [h]; exact hg
    · omega
theorem wpList_append_out {w : World} {ops : Array Oper} {rest : List Oper} {o : Oper} {a : Act} {Q : Exit → Act → World → Prop} (hgd : o.guard = none) (sl x : Operand)
    (ho : o.op = .call { callee := .builtin .append, args := #[sl, x], argTypes := #[52, 9] }) (base : Nat) (v : Value) (l t : List Nat) (hs : a.eval sl = v) (hx : a.eval x = .string (str t)) (h : OutB w base v l) (hb : base ≤ w.heap.size) (ht : ∀ c ∈ t, c < 100) (hl : l.length + t.length ≤ 140737488355328)
    (hK : ∀ v' w', OutB w' base v' (l ++ t) → Chg (fun k => base ≤ k) w w' → wpList Tryd.prog ops Q rest (a.put o.dst v') w') : wpList Tryd.prog ops Q (o :: rest) a w := by
  refine wpList_step fun K hK' => ?_
  rw [if_pos (by simp [Region.wanted, hgd])]
  obtain ⟨v', w', hrun, r1, r2⟩ := run_append_out w o.type base v l t h hb ht hl
  unfold Oper.wp
  simp [execOp, ho, resolve, invoke, builtin, hs, hx, hrun, Result.andThen]
  exact hK' _ _ (hK v' w' r1 r2)
end Go.Proofs.YtilacamhjibneaaDoor

/- down, walked. Its conditions are its premises. -/
namespace Go.Proofs.YtilacamhjibneaaDoor
open Go.RowKit

theorem gen_take (V : List (List Nat)) (y : Nat) (s : List Nat) {i : Nat} (h : i < s.length) : gen V (y + 1) (s.take (i + 1)) = gen V (y + 1) (s.take i) ++ gen V y (part V s[i]) := by
  rw [List.take_succ_eq_append_getElem h, gen_app]
  have : gen V (y + 1) [s[i]] = gen V y (part V s[i]) := by rw [gen_cons, gen_nil, List.append_nil]
  rw [this]
theorem gen_take_le (V : List (List Nat)) (y : Nat) (s : List Nat) (i : Nat) : (gen V y (s.take i)).length ≤ (gen V y s).length := by
  have : gen V y s = gen V y (s.take i) ++ gen V y (s.drop i) := by rw [← gen_app, List.take_append_drop]
  rw [this, List.length_append]
  omega
theorem tab_pos {V : List (List Nat)} (hV : WF V) {y c : Nat} (hc : c < V.length) : at0 (tab V (y + 1)) c = 0 → gen V y (part V c) = [] := fun h => by
  rw [tab_succ hc, lng_gen hV y _ (hV.part_le c).2] at h
  unfold M63 at h
  exact List.eq_nil_of_length_eq_zero (by omega)

set_option maxRecDepth 100000 in
set_option maxHeartbeats 1000000 in
theorem down_any (V : List (List Nat)) (hV : WF V) (w0 : World) (b off cap : Nat) (hv : VAt w0 b off V) (tb tc M Y : Nat) (htab : TabAt w0 tb 0 V Y) (hYM : Y < M) (hY : Y ≤ 1000) :
    ∀ (y : Nat), y ≤ Y → ∀ (s l : List Nat), (∀ c ∈ s, c < V.length) → s.length ≤ 1000 → l.length + (gen V y s).length ≤ 140737488355328 → ∀ (v : Value) (w : World), Chg (fun _ => False) w0 w → OutB w w0.heap.size v l →
    Calls Tryd.prog 75 #[.slice (some ⟨b, off, none⟩) V.length cap, .slice (some ⟨tb, 0, none⟩) M tc, .string (str s), .int .i64 (y : Int), v] w fun e w' => (∃ v', e = .returned v' ∧ OutB w' w0.heap.size v' (l ++ gen V y s)) ∧ Chg (fun _ => False) w0 w' := by
  have hn6 := hV.le
  intro y
  induction y with
  | zero =>
    intro _ s l hs hsl hlen v w hc ho
    have HO := Lib.hid ho; have HC := Lib.hid hc; have HS := Lib.hid hs
    have hlen2 : l.length + s.length ≤ 140737488355328 := hlen
    clear ho hc hs hlen hv htab
    go_enter Tryd.func75, Tryd.ntmps75
    go_wp2_with (at_builtin; refine wpList_append_out rfl (.tmp 15) (.tmp 16) rfl w0.heap.size v l s (by simp [Act.eval]) (by simp [Act.eval]) HO.out HC.out.size (fun c h => by have := HS.out c h; omega) hlen2 ?_)
    intro v' w' hout hc'
    have HOU := Lib.hid hout; have HC2 := Lib.hid (HC.out.trans hc' (fun k hk => .inr hk))
    clear hout hc'
    go_wp2_with fail
    go_ret
    exact ⟨⟨v', rfl, HOU.out⟩, HC2.out⟩
  | succ y ih =>
    intro hyY s l hs hsl hlen v w hc ho
    have HIH := Lib.hid (ih (by omega))
    have HO := Lib.hid ho; have HC := Lib.hid hc; have HS := Lib.hid hs; have HWF := Lib.hid hV; have HV := Lib.hid hv; have HTAB := Lib.hid htab
    obtain ⟨g1, c1, t1, t2⟩ := htab (y + 1) hyY
    rw [Nat.zero_add] at t1
    have HT1 := Lib.hid t1; have HT2 := Lib.hid t2
    have HTL := Lib.hid (tab_len V (y + 1))
    obtain ⟨z, hz⟩ : ∃ z, y + 1 = z := ⟨_, rfl⟩
    have HZ := Lib.hid hz
    have hz0 : ¬ (z : Int) = 0 := by omega
    have hz1 : (z : Int) - 1 = (y : Int) := by omega
    have hzM : (z : Int) < (M : Int) := by omega
    have hz1000 : z ≤ 1000 := by omega
    rw [hz] at hlen HT1 HT2 HTL ⊢
    have hsz := str_size s
    clear ih ho hc hs hv htab t1 t2 hz hyY hV
    go_enter Tryd.func75, Tryd.ntmps75
    go_wp2_with fail
    go_loopg [11, 4] s.length (fun gm iv ov wr => ∃ i : Nat, i ≤ s.length ∧ gm = s.length - i ∧ iv = .int .i64 i ∧ OutB wr w0.heap.size ov (l ++ gen V z (s.take i)) ∧ Chg (fun _ => False) w0 wr)
    case atStart => exact ⟨0, by omega, by omega, rfl, by rw [List.take_zero, gen_nil, List.append_nil]; exact HO.out, HC.out⟩
    case round =>
      clear HO HC
      obtain ⟨i, hi, rfl, rfl, ho, hc⟩ := hrel
      have HO := Lib.hid ho; have HC := Lib.hid hc
      clear ho hc
      generalize u4 = ov at HO ⊢
      by_cases hil : i < s.length
      · have d0 : decide (i < s.length) = true := by simpa using hil
        have hcn := HS.out _ (List.getElem_mem hil)
        have hidx := index_chr hil (by omega)
        have hu8 := u8_chr s[i] (by omega)
        have q1 := HC.out.cell_some HT1.out (fun x => x)
        have q2 := HC.out.cell_some (HT2.out s[i] (by rw [HTL.out]; exact hcn)) (fun x => x)
        have q3 := (HV.out.chg HC.out (fun x => x)) s[i] hcn
        rw [← part_lt hcn] at q3
        have HGT : Hid (gen V z (s.take (i + 1)) = gen V z (s.take i) ++ gen V y (part V s[i])) := Lib.hid (by rw [← HZ.out]; exact gen_take V y s hil)
        have HLE := Lib.hid (gen_take_le V z s (i + 1))
        have HPP := Lib.hid (HWF.out.part_le s[i])
        have HTP : Hid (at0 (tab V z) s[i] = 0 → gen V y (part V s[i]) = []) := Lib.hid (by rw [← HZ.out]; exact tab_pos HWF.out hcn)
        obtain ⟨p, hp⟩ : ∃ p, part V s[i] = p := ⟨_, rfl⟩
        rw [hp] at q3 HGT HPP HTP
        obtain ⟨d, hd⟩ : ∃ d, s[i] = d := ⟨_, rfl⟩
        rw [hd] at hcn hu8 q2 q3 HTP
        simp only [hd] at hidx
        obtain ⟨D, hD⟩ : ∃ D, 97 + d = D := ⟨_, rfl⟩
        rw [hD] at hu8
        simp only [hD] at hidx
        obtain ⟨x, hx⟩ : ∃ x, at0 (tab V z) d = x := ⟨_, rfl⟩
        rw [hx] at q2 HTP
        clear hp hd hD hx
        have hdi : (d : Int) < (V.length : Int) := by omega
        by_cases hx0 : x = 0
        · have HGN := Lib.hid (HTP.out hx0)
          rw [HGN.out, List.append_nil] at HGT
          subst hx0
          clear HTP
          go_wp2_with fail
          go_roundg (s.length - (i + 1))
          case measure => omega
          case rel => exact ⟨i + 1, by omega, rfl, by go_num, by rw [HGT.out]; exact HO.out, HC.out⟩
        · have hx1 : decide (0 < x) = true := by simp; omega
          have HLN := Lib.hid (show (l ++ gen V z (s.take i)).length + (gen V y p).length ≤ 140737488355328 by
            have h1 := HLE.out
            rw [HGT.out, List.length_append] at h1
            rw [List.length_append]
            omega)
          have HCA := Lib.hid (HIH.out p (l ++ gen V z (s.take i)) HPP.out.2 (by have := HPP.out.1; omega) HLN.out ov wr HC.out HO.out)
          clear HTP
          go_wp2_with fail
          refine HCA.out.mono ?_
          rintro e w2 ⟨⟨v', rfl, ho'⟩, hc'⟩
          have HO2 := Lib.hid ho'; have HC2 := Lib.hid hc'
          clear ho' hc'
          go_wp2_with fail
          go_roundg (s.length - (i + 1))
          case measure => omega
          case rel => exact ⟨i + 1, by omega, rfl, by go_num, by rw [HGT.out, ← List.append_assoc]; exact HO2.out, HC2.out⟩
      · obtain rfl : i = s.length := by omega
        rw [List.take_length] at HO
        go_wp2_with fail
        go_ret
        exact ⟨⟨ov, rfl, HO.out⟩, HC.out⟩
end Go.Proofs.YtilacamhjibneaaDoor

/- Alike, walked. Its conditions are its premises. -/
namespace Go.Proofs.YtilacamhjibneaaDoor
open Go.RowKit

theorem str_inj {l m : List Nat} (hl : ∀ c ∈ l, c < 100) (hm : ∀ c ∈ m, c < 100) (h : str l = str m) : l = m := kl_inj hl hm (by unfold kl; rw [h])
/-- The first year, from y on, in which the shoots differ. -/
def alkF (V : List (List Nat)) (t : List Nat) (W : List (List Nat)) (u : List Nat) : Nat → Nat → Value
  | 0, _ => .tuple #[.int .i64 0, .int .i64 10]
  | f + 1, y => if ¬ ln V t y = ln W u y then .tuple #[.int .i64 (y : Int), .int .i64 0] else if 100000 < ln V t y then .tuple #[.int .i64 0, .int .i64 8] else if ¬ gen V y t = gen W y u then .tuple #[.int .i64 (y : Int), .int .i64 0] else alkF V t W u f (y + 1)
theorem alkF_ne {V : List (List Nat)} {t : List Nat} {W : List (List Nat)} {u : List Nat} {f y : Nat} (h : ln V t y ≤ 100000) (hn : ¬ gen V y t = gen W y u) : alkF V t W u (f + 1) y = .tuple #[.int .i64 (y : Int), .int .i64 0] := by
  rw [alkF]
  by_cases hl : ln V t y = ln W u y
  · rw [if_neg (by simpa using hl), if_neg (by omega), if_pos hn]
  · rw [if_pos hl]
theorem alkF_eq {V : List (List Nat)} {t : List Nat} {W : List (List Nat)} {u : List Nat} {f y : Nat} (h : ln V t y ≤ 100000) (he : gen V y t = gen W y u) : alkF V t W u (f + 1) y = alkF V t W u f (y + 1) := by
  rw [alkF, if_neg (by unfold ln; rw [he]; simp), if_neg (by omega), if_neg (by simpa using he)]
theorem alkF_len {V : List (List Nat)} {t : List Nat} {W : List (List Nat)} {u : List Nat} {f y : Nat} (h : ¬ ln V t y = ln W u y) : alkF V t W u (f + 1) y = .tuple #[.int .i64 (y : Int), .int .i64 0] := by
  rw [alkF, if_pos h]
theorem alkF_full {V : List (List Nat)} {t : List Nat} {W : List (List Nat)} {u : List Nat} {f y : Nat} (h : ln V t y = ln W u y) (hb : 100000 < ln V t y) : alkF V t W u (f + 1) y = .tuple #[.int .i64 0, .int .i64 8] := by
  rw [alkF, if_neg (by simpa using h), if_pos hb]
end Go.Proofs.YtilacamhjibneaaDoor

/- Alike, walked. Its conditions are its premises. -/
namespace Go.Proofs.YtilacamhjibneaaDoor
open Go.RowKit

/-- The sum of the tally a year later. -/
theorem sum_next {V : List (List Nat)} (hV : WF V) {t : List Nat} (ht : ∀ c ∈ t, c < V.length) {y : Nat} (hs : ln V t y ≤ 100000) : sumV (aftV V (cntV V.length (gen V y t))) = ln V t (y + 1) := by
  have h1 := sum_gen hV (gen_lt hV y t ht) (by unfold ln at hs; unfold lim; omega) 1
  have h2 : agedF V (gen V y t) 1 = aftV V (cntV V.length (gen V y t)) := rfl
  rw [h2] at h1
  rw [h1]
  have h3 : gen V 1 (gen V y t) = gen V (y + 1) t := (gen_succ V y t).symm
  rw [h3]
  have h4 := grow1_len hV (gen V y t)
  have h5 : (gen V (y + 1) t).length ≤ 800000 := by rw [gen_succ]; unfold ln at hs; omega
  unfold ln lim
  omega

set_option maxRecDepth 100000 in
set_option maxHeartbeats 1000000 in
theorem alike_ok (V : List (List Nat)) (hV : WF V) (t : List Nat) (ht : ∀ c ∈ t, c < V.length) (hl : t.length ≤ 30) (b off cap : Nat) (W : List (List Nat)) (hW : WF W) (u : List Nat) (hu : ∀ c ∈ u, c < W.length) (hul : u.length ≤ 30) (b2 off2 cap2 : Nat) (w : World) (hv : VAt w b off V) (hw : VAt w b2 off2 W) :
    Calls Tryd.prog 39 #[.slice (some ⟨b, off, none⟩) V.length cap, .string (str t), .slice (some ⟨b2, off2, none⟩) W.length cap2, .string (str u)] w fun e w' => e = .returned (alkF V t W u 12 0) ∧ Chg (fun _ => False) w w' := by
  have hn6 := hV.le
  have hm6 := hW.le
  have HTW := Lib.hid (two_ok V hV t ht hl b off cap W hW u hu hul b2 off2 cap2 w hv hw)
  have HV := Lib.hid hv; have HW := Lib.hid hw; have HWV := Lib.hid hV; have HWW := Lib.hid hW; have HT := Lib.hid ht; have HU := Lib.hid hu
  have HL0 := Lib.hid (show ln V t 0 ≤ 100000 from by show t.length ≤ _; omega)
  have HM0 := Lib.hid (show ln W u 0 ≤ 100000 from by show u.length ≤ _; omega)
  obtain ⟨R, hR⟩ : ∃ R, alkF V t W u 12 0 = R := ⟨_, rfl⟩
  have HR := Lib.hid hR
  rw [hR]
  clear hv hw hV hW ht hu hR
  go_enter Tryd.func39, Tryd.ntmps39
  go_wp2_with fail
  refine HTW.out.mono ?_
  rintro e w1 ⟨rfl, rfl⟩
  go_wp2_with fail
  go_loopg [28, 1, 3] 12 (fun gm kv sv tv wr => ∃ y : Nat, y < 12 ∧ gm = 12 - y ∧ kv = .int .i64 y ∧ sv = .string (str (gen V y t)) ∧ tv = .string (str (gen W y u)) ∧ ln V t y ≤ 100000 ∧ ln W u y ≤ 100000 ∧ alkF V t W u (12 - y) y = R ∧ Chg (fun _ => False) w1 wr)
  case atStart => exact ⟨0, by omega, by omega, rfl, rfl, rfl, HL0.out, HM0.out, HR.out, Chg.refl _ _⟩
  case round =>
    obtain ⟨y, hy, rfl, rfl, rfl, rfl, h1, h2, hr, hc⟩ := hrel
    have H1 := Lib.hid h1; have H2 := Lib.hid h2; have HRR := Lib.hid hr; have HC := Lib.hid hc
    clear h1 h2 hr hc
    have d0 : decide ((y : Int) < 12) = true := by simp; omega
    obtain ⟨f, hf⟩ : ∃ f, 12 - y = f + 1 := ⟨11 - y, by omega⟩
    have HF := Lib.hid hf
    rw [hf] at HRR
    have HGV := Lib.hid (gen_lt HWV.out y t HT.out)
    have HGW := Lib.hid (gen_lt HWW.out y u HU.out)
    have HSN1 := Lib.hid (sum_next HWV.out HT.out H1.out)
    have HSN2 := Lib.hid (sum_next HWW.out HU.out H2.out)
    have HG1 := Lib.hid (gen_succ V y t); have HG2 := Lib.hid (gen_succ W y u)
    have HLN1 := Lib.hid (show (gen V y t).length ≤ 100000 from H1.out); have HLN2 := Lib.hid (show (gen W y u).length ≤ 100000 from H2.out)
    clear hf
    have HCV := Lib.hid (fun w => counts_any V.length (gen V y t) (some ⟨b, off, none⟩) cap w (by omega) HGV.out (by have := HLN1.out; omega))
    have HCW := Lib.hid (fun w => counts_any W.length (gen W y u) (some ⟨b2, off2, none⟩) cap2 w (by omega) HGW.out (by have := HLN2.out; omega))
    have HNV := Lib.hid (fun w hv => next_any V HWV.out (gen V y t) HGV.out (by have := HLN1.out; omega) b off cap w hv)
    have HNW := Lib.hid (fun w hv => next_any W HWW.out (gen W y u) HGW.out (by have := HLN2.out; omega) b2 off2 cap2 w hv)
    rw [← HG1.out] at HNV
    rw [← HG2.out] at HNW
    obtain ⟨sa, hsa⟩ : ∃ sa, str (gen V y t) = sa := ⟨_, rfl⟩
    obtain ⟨sb, hsb⟩ : ∃ sb, str (gen W y u) = sb := ⟨_, rfl⟩
    have HSA := Lib.hid hsa; have HSB := Lib.hid hsb
    rw [hsa] at HCV HNV ⊢
    rw [hsb] at HCW HNW ⊢
    clear hsa hsb
    by_cases heq : gen V y t = gen W y u
    · have HRN := Lib.hid ((alkF_eq H1.out heq).symm.trans HRR.out)
      obtain rfl : sa = sb := by rw [← HSA.out, ← HSB.out, heq]
      clear heq
      by_cases hy11 : y = 11
      · subst hy11
        have HF0 : Hid (f = 0) := Lib.hid (by have := HF.out; omega)
        have HRP : Hid (.tuple #[.int .i64 0, .int .i64 10] = R) := Lib.hid (by have h := HRN.out; rw [HF0.out] at h; exact h)
        go_wp2_with fail
        go_ret2
        exact ⟨by rw [← HRP.out]; rfl, HC.out⟩
      · have hy11' : ¬ (y : Int) = 11 := by omega
        go_wp2_with fail
        refine (HCV.out wr).mono ?_
        rintro e w2 ⟨rfl, hb2, hc2⟩
        obtain ⟨gx, hgx⟩ : ∃ gx, wr.heap.size = gx := ⟨_, rfl⟩
        rw [hgx] at hb2 ⊢
        have HB2 := Lib.hid hb2; have HC2 := Lib.hid (HC.out.trans hc2 (fun _ x => x.elim))
        clear hb2 hc2 hgx
        have HAV := Lib.hid (after_any V HWV.out (cntV V.length (gen V y t)) b off cap gx 0 V.length w2 (HV.out.chg HC2.out (fun x => x)) (nats_of_blk HB2.out) (cntV_len _ _) (fun z hz => by have h := cntF_le V.length (gen V y t) _ z hz; have := HLN1.out; unfold lim; omega))
        go_wp2_with fail
        refine HAV.out.mono ?_
        rintro e w3 ⟨rfl, hb3, hc3⟩
        obtain ⟨g3, hg3⟩ : ∃ g3, w2.heap.size = g3 := ⟨_, rfl⟩
        rw [hg3] at hb3 ⊢
        have HB3 := Lib.hid hb3; have HC3 := Lib.hid (HC2.out.trans hc3 (fun _ x => x.elim))
        clear hb3 hc3 hg3
        have HS3 := Lib.hid (sum_any (aftV V (cntV V.length (gen V y t))) g3 0 V.length w3 (nats_of_blk HB3.out) (aftF_le V _ _) (by rw [aftV, aftF_len]; omega))
        rw [show (aftV V (cntV V.length (gen V y t))).length = V.length from aftF_len V _ _, HSN1.out] at HS3
        go_wp2_with fail
        refine HS3.out.mono ?_
        rintro e w4 ⟨rfl, rfl⟩
        go_wp2_with fail
        refine (HCW.out w4).mono ?_
        rintro e w5 ⟨rfl, hb5, hc5⟩
        obtain ⟨g5, hg5⟩ : ∃ g5, w4.heap.size = g5 := ⟨_, rfl⟩
        rw [hg5] at hb5 ⊢
        have HB5 := Lib.hid hb5; have HC5 := Lib.hid (HC3.out.trans hc5 (fun _ x => x.elim))
        clear hb5 hc5 hg5
        have HAW := Lib.hid (after_any W HWW.out (cntV W.length (gen W y u)) b2 off2 cap2 g5 0 W.length w5 (HW.out.chg HC5.out (fun x => x)) (nats_of_blk HB5.out) (cntV_len _ _) (fun z hz => by have h := cntF_le W.length (gen W y u) _ z hz; have := HLN2.out; unfold lim; omega))
        go_wp2_with fail
        refine HAW.out.mono ?_
        rintro e w6 ⟨rfl, hb6, hc6⟩
        obtain ⟨g6, hg6⟩ : ∃ g6, w5.heap.size = g6 := ⟨_, rfl⟩
        rw [hg6] at hb6 ⊢
        have HB6 := Lib.hid hb6; have HC6 := Lib.hid (HC5.out.trans hc6 (fun _ x => x.elim))
        clear hb6 hc6 hg6
        have HS6 := Lib.hid (sum_any (aftV W (cntV W.length (gen W y u))) g6 0 W.length w6 (nats_of_blk HB6.out) (aftF_le W _ _) (by rw [aftV, aftF_len]; omega))
        rw [show (aftV W (cntV W.length (gen W y u))).length = W.length from aftF_len W _ _, HSN2.out] at HS6
        obtain ⟨f2, hf2⟩ : ∃ f2, f = f2 + 1 := ⟨f - 1, by have := HF.out; omega⟩
        have HF2 := Lib.hid hf2
        rw [hf2] at HRN
        clear hf2
        have HX1 := Lib.hid (fun h => (alkF_len (f := f2) (V := V) (t := t) (W := W) (u := u) (y := y + 1) h).symm.trans HRN.out)
        have HX2 := Lib.hid (fun h h' => (alkF_full (f := f2) (V := V) (t := t) (W := W) (u := u) (y := y + 1) h h').symm.trans HRN.out)
        obtain ⟨p, hp⟩ : ∃ p, ln V t (y + 1) = p := ⟨_, rfl⟩
        obtain ⟨q, hq⟩ : ∃ q, ln W u (y + 1) = q := ⟨_, rfl⟩
        have HP := Lib.hid hp; have HQ := Lib.hid hq
        rw [hp] at HS3; rw [hq] at HS6
        rw [hp, hq] at HX1 HX2
        rw [hp]
        clear hp hq
        by_cases hpq : p = q
        · subst hpq
          have HX2' := Lib.hid (HX2.out rfl)
          by_cases hbig : 100000 < p
          · have d5 : decide ((100000 : Int) < (p : Int)) = true := by simp; omega
            have HRF := Lib.hid (HX2'.out hbig)
            clear HX1 HX2 HX2'
            go_wp2_with fail
            refine HS6.out.mono ?_
            rintro e w7 ⟨rfl, rfl⟩
            go_wp2_with fail
            go_ret2
            exact ⟨by rw [← HRF.out]; rfl, HC6.out⟩
          · have d5 : decide ((100000 : Int) < (p : Int)) = false := by simp; omega
            clear HX1 HX2 HX2'
            go_wp2_with fail
            refine HS6.out.mono ?_
            rintro e w7 ⟨rfl, rfl⟩
            go_wp2_with fail
            refine (HNV.out w7 (HV.out.chg HC6.out (fun x => x))).mono ?_
            rintro e w8 ⟨rfl, hb8⟩
            have HC8 := Lib.hid (HC6.out.trans (Chg.of_below (S := fun _ => False) hb8) (fun _ x => x.elim))
            clear hb8
            go_wp2_with fail
            refine (HNW.out w8 (HW.out.chg HC8.out (fun x => x))).mono ?_
            rintro e w9 ⟨rfl, hb9⟩
            have HC9 := Lib.hid (HC8.out.trans (Chg.of_below (S := fun _ => False) hb9) (fun _ x => x.elim))
            clear hb9
            go_wp2_with fail
            go_roundg (12 - (y + 1))
            case measure => omega
            case rel => exact ⟨y + 1, by omega, rfl, by go_num, rfl, rfl, by rw [HP.out]; omega, by rw [HQ.out]; omega, by rw [show 12 - (y + 1) = f2 + 1 by have := HF.out; have := HF2.out; omega]; exact HRN.out, HC9.out⟩
        · have hpq' : ¬ (p : Int) = (q : Int) := by omega
          have HRF := Lib.hid (HX1.out hpq)
          clear HX1 HX2
          go_wp2_with fail
          refine HS6.out.mono ?_
          rintro e w7 ⟨rfl, rfl⟩
          go_wp2_with fail
          go_ret2
          exact ⟨by rw [← HRF.out]; rfl, HC6.out⟩
    · have HRN := Lib.hid ((alkF_ne H1.out heq).symm.trans HRR.out)
      have hst : (sa == sb) = false := by
        have h : ¬ sa = sb := fun e => heq (str_inj (fun c hc => by have := HGV.out c hc; omega) (fun c hc => by have := HGW.out c hc; omega) (by rw [HSA.out, HSB.out, e]))
        cases hb : (sa == sb) with
        | false => rfl
        | true =>
          exfalso
          apply h
          apply ByteArray.ext
          cases sa with | mk a => cases sb with | mk b => exact eq_of_beq (show (a == b) = true from hb)
      have hst2 : (sa.toList == sb.toList) = false := by rw [← beq_toListBytes]; exact hst
      clear hst
      go_wp2_with fail
      go_ret2
      exact ⟨by rw [← HRN.out]; rfl, HC.out⟩
end Go.Proofs.YtilacamhjibneaaDoor

/- Bytes that grew, as a string. Their conditions are their premises. -/
namespace Go.Proofs.YtilacamhjibneaaDoor
open Go.RowKit

theorem conv_out {w : World} {base : Nat} {v : Value} {l : List Nat} (h : OutB w base v l) (hc : ∀ c ∈ l, c < 100) : (convert 52 9 v).run Tryd.prog w = .ok (.string (str l)) w := by
  rcases h with ⟨rfl, rfl⟩ | ⟨g, c, rfl, _, hq⟩
  · have := Lib.run_convert_nil_bytes (P := Tryd.prog) w 52 9 5 0 Tryd.underlying52 Tryd.underlying5 Tryd.underlying9
    rw [this]
    rfl
  · have hu : U8At w g 0 l := fun k hk => by
      have := hq.at_ _ _ (u8V_at hk)
      rw [Nat.zero_add, this, at0_lt_of hk]
    have := back_str (cap := c) (i := 0) (len := l.length) hu (by omega) hc
    rw [List.drop_zero, List.take_length] at this
    exact this
end Go.Proofs.YtilacamhjibneaaDoor

/- two and Both where a vine or a shoot is refused. Their conditions are their premises. -/
namespace Go.Proofs.YtilacamhjibneaaDoor
open Go.RowKit

def bothE (P : List ByteArray) (s : ByteArray) (Q : List ByteArray) (u : ByteArray) : Nat := if errS P s = 0 then errS Q u else errS P s
/-- What is small enough, with its cells. -/
structure Sm (w : World) (P : List ByteArray) (s : ByteArray) (ao : Option Addr) (b off : Nat) : Prop where
  at_ : StrsAt w b off P
  ao : P = [] ∨ ao = some ⟨b, off, none⟩
  n : P.length ≤ 1000
  z : ∀ p ∈ P, p.size ≤ 1000
  zs : s.size ≤ 1000
theorem two_err (P : List ByteArray) (s : ByteArray) (ao : Option Addr) (cap b off : Nat) (Q : List ByteArray) (u : ByteArray) (bo : Option Addr) (cap2 b2 off2 : Nat) (w : World) (h1 : Sm w P s ao b off) (h2 : Sm w Q u bo b2 off2) (he : ¬ bothE P s Q u = 0) :
    Calls Tryd.prog 79 #[.slice ao P.length cap, .string s, .slice bo Q.length cap2, .string u] w fun e w' => (∃ x y, e = .returned (.tuple #[x, y, .int .i64 (bothE P s Q u : Nat)])) ∧ w' = w := by
  have H1 := Lib.hid (shot_any P s ao cap b off w h1.at_ h1.ao h1.n h1.z h1.zs)
  have H2 := Lib.hid (shot_any Q u bo cap2 b2 off2 w h2.at_ h2.ao h2.n h2.z h2.zs)
  by_cases hp : errS P s = 0
  · have hb : bothE P s Q u = errS Q u := if_pos hp
    rw [show shotV ao cap P s = .tuple #[.slice ao P.length cap, .int .i64 0] by unfold shotV; rw [if_pos hp]] at H1
    rw [hb] at he ⊢
    rw [show shotV bo cap2 Q u = .tuple #[.slice none 0 0, .int .i64 (errS Q u : Nat)] by unfold shotV; rw [if_neg he]] at H2
    obtain ⟨E, hE⟩ : ∃ E, errS Q u = E := ⟨_, rfl⟩
    rw [hE] at H2 ⊢
    clear h1 h2 he hp hb hE
    go_enter Tryd.func79, Tryd.ntmps79
    go_wp2_with fail
    refine H1.out.mono ?_
    rintro e w1 ⟨rfl, rfl⟩
    go_wp2_with fail
    refine H2.out.mono ?_
    rintro e w1 ⟨rfl, rfl⟩
    go_wp2_with fail
    go_ret3
    exact ⟨⟨_, _, rfl⟩, rfl⟩
  · have hb : bothE P s Q u = errS P s := if_neg hp
    rw [hb]
    rw [show shotV ao cap P s = .tuple #[.slice none 0 0, .int .i64 (errS P s : Nat)] by unfold shotV; rw [if_neg hp]] at H1
    obtain ⟨E, hE⟩ : ∃ E, errS P s = E := ⟨_, rfl⟩
    rw [hE] at H1 hp ⊢
    have dn : (((E : Nat) : Int) != 0) = true := by simpa using hp
    clear h1 h2 he hp hb hE H2
    go_enter Tryd.func79, Tryd.ntmps79
    go_wp2_with fail
    refine H1.out.mono ?_
    rintro e w1 ⟨rfl, rfl⟩
    go_wp2_with fail
    go_ret3
    exact ⟨⟨_, _, rfl⟩, rfl⟩
theorem both_any (P : List ByteArray) (s : ByteArray) (ao : Option Addr) (cap b off : Nat) (Q : List ByteArray) (u : ByteArray) (bo : Option Addr) (cap2 b2 off2 : Nat) (w : World) (h1 : Sm w P s ao b off) (h2 : Sm w Q u bo b2 off2) :
    Calls Tryd.prog 80 #[.slice ao P.length cap, .string s, .slice bo Q.length cap2, .string u] w fun e w' => e = .returned (.int .i64 (bothE P s Q u : Nat)) ∧ w' = w := by
  have H1 := Lib.hid (rshoot_any P s ao cap b off w h1.at_ h1.ao h1.n h1.z h1.zs)
  have H2 := Lib.hid (rshoot_any Q u bo cap2 b2 off2 w h2.at_ h2.ao h2.n h2.z h2.zs)
  by_cases hp : errS P s = 0
  · have hb : bothE P s Q u = errS Q u := if_pos hp
    rw [hb]
    rw [hp] at H1
    clear h1 h2 hp hb
    go_enter Tryd.func80, Tryd.ntmps80
    go_wp2_with fail
    refine H1.out.mono ?_
    rintro e w1 ⟨rfl, rfl⟩
    go_wp2_with fail
    refine H2.out.mono ?_
    rintro e w1 ⟨rfl, rfl⟩
    go_wp2_with fail
    go_ret
    exact ⟨rfl, rfl⟩
  · have hb : bothE P s Q u = errS P s := if_neg hp
    rw [hb]
    obtain ⟨E, hE⟩ : ∃ E, errS P s = E := ⟨_, rfl⟩
    rw [hE] at H1 hp ⊢
    have dn : (((E : Nat) : Int) == 0) = false := by simpa using hp
    clear h1 h2 hp hb hE H2
    go_enter Tryd.func80, Tryd.ntmps80
    go_wp2_with fail
    refine H1.out.mono ?_
    rintro e w1 ⟨rfl, rfl⟩
    go_wp2_with fail
    go_ret
    exact ⟨rfl, rfl⟩
end Go.Proofs.YtilacamhjibneaaDoor

/- Same and Alike, both, where a vine or a shoot is refused. Their conditions are their premises. -/
namespace Go.Proofs.YtilacamhjibneaaDoor
open Go.RowKit

theorem same_err (P : List ByteArray) (s : ByteArray) (ao : Option Addr) (cap b off : Nat) (Q : List ByteArray) (u : ByteArray) (bo : Option Addr) (cap2 b2 off2 : Nat) (w : World) (h1 : Sm w P s ao b off) (h2 : Sm w Q u bo b2 off2) (he : ¬ bothE P s Q u = 0) :
    Calls Tryd.prog 37 #[.slice ao P.length cap, .string s, .slice bo Q.length cap2, .string u] w fun e w' => e = .returned (.tuple #[.int .i64 0, .int .i64 (bothE P s Q u : Nat)]) ∧ w' = w := by
  have H := Lib.hid (two_err P s ao cap b off Q u bo cap2 b2 off2 w h1 h2 he)
  obtain ⟨E, hE⟩ : ∃ E, bothE P s Q u = E := ⟨_, rfl⟩
  rw [hE] at H he ⊢
  have dn : (((E : Nat) : Int) != 0) = true := by simpa using he
  clear h1 h2 he hE
  go_enter Tryd.func37, Tryd.ntmps37
  go_wp2_with fail
  refine H.out.mono ?_
  rintro e w1 ⟨⟨x, y, rfl⟩, rfl⟩
  go_wp2_with fail
  go_ret2
  exact ⟨rfl, rfl⟩

theorem alike_err (P : List ByteArray) (s : ByteArray) (ao : Option Addr) (cap b off : Nat) (Q : List ByteArray) (u : ByteArray) (bo : Option Addr) (cap2 b2 off2 : Nat) (w : World) (h1 : Sm w P s ao b off) (h2 : Sm w Q u bo b2 off2) (he : ¬ bothE P s Q u = 0) :
    Calls Tryd.prog 39 #[.slice ao P.length cap, .string s, .slice bo Q.length cap2, .string u] w fun e w' => e = .returned (.tuple #[.int .i64 0, .int .i64 (bothE P s Q u : Nat)]) ∧ w' = w := by
  have H := Lib.hid (two_err P s ao cap b off Q u bo cap2 b2 off2 w h1 h2 he)
  obtain ⟨E, hE⟩ : ∃ E, bothE P s Q u = E := ⟨_, rfl⟩
  rw [hE] at H he ⊢
  have dn : (((E : Nat) : Int) != 0) = true := by simpa using he
  clear h1 h2 he hE
  go_enter Tryd.func39, Tryd.ntmps39
  go_wp2_with fail
  refine H.out.mono ?_
  rintro e w1 ⟨⟨x, y, rfl⟩, rfl⟩
  go_wp2_with fail
  go_ret2
  exact ⟨rfl, rfl⟩

theorem rsame_err (P : List ByteArray) (s : ByteArray) (ao : Option Addr) (cap b off : Nat) (Q : List ByteArray) (u : ByteArray) (bo : Option Addr) (cap2 b2 off2 : Nat) (w : World) (h1 : Sm w P s ao b off) (h2 : Sm w Q u bo b2 off2) (he : ¬ bothE P s Q u = 0) :
    Calls Tryd.prog 38 #[.slice ao P.length cap, .string s, .slice bo Q.length cap2, .string u] w fun e w' => e = .returned (.tuple #[.int .i64 0, .int .i64 (bothE P s Q u : Nat)]) ∧ w' = w := by
  have H := Lib.hid (both_any P s ao cap b off Q u bo cap2 b2 off2 w h1 h2)
  obtain ⟨E, hE⟩ : ∃ E, bothE P s Q u = E := ⟨_, rfl⟩
  rw [hE] at H he ⊢
  have dn : (((E : Nat) : Int) != 0) = true := by simpa using he
  clear h1 h2 he hE
  go_enter Tryd.func38, Tryd.ntmps38
  go_wp2_with fail
  refine H.out.mono ?_
  rintro e w1 ⟨rfl, rfl⟩
  go_wp2_with fail
  go_ret2
  exact ⟨rfl, rfl⟩

theorem ralike_err (P : List ByteArray) (s : ByteArray) (ao : Option Addr) (cap b off : Nat) (Q : List ByteArray) (u : ByteArray) (bo : Option Addr) (cap2 b2 off2 : Nat) (w : World) (h1 : Sm w P s ao b off) (h2 : Sm w Q u bo b2 off2) (he : ¬ bothE P s Q u = 0) :
    Calls Tryd.prog 40 #[.slice ao P.length cap, .string s, .slice bo Q.length cap2, .string u] w fun e w' => e = .returned (.tuple #[.int .i64 0, .int .i64 (bothE P s Q u : Nat)]) ∧ w' = w := by
  have H := Lib.hid (both_any P s ao cap b off Q u bo cap2 b2 off2 w h1 h2)
  obtain ⟨E, hE⟩ : ∃ E, bothE P s Q u = E := ⟨_, rfl⟩
  rw [hE] at H he ⊢
  have dn : (((E : Nat) : Int) != 0) = true := by simpa using he
  clear h1 h2 he hE
  go_enter Tryd.func40, Tryd.ntmps40
  go_wp2_with fail
  refine H.out.mono ?_
  rintro e w1 ⟨rfl, rfl⟩
  go_wp2_with fail
  go_ret2
  exact ⟨rfl, rfl⟩
end Go.Proofs.YtilacamhjibneaaDoor

/- Alike of the reference, walked. Its conditions are its premises. -/
namespace Go.Proofs.YtilacamhjibneaaDoor
open Go.RowKit

theorem bytes_ne {sa sb : ByteArray} (h : ¬ sa = sb) : (sa == sb) = false := by
  cases hb : (sa == sb) with
  | false => rfl
  | true =>
    exfalso
    apply h
    apply ByteArray.ext
    cases sa with | mk a => cases sb with | mk b => exact eq_of_beq (show (a == b) = true from hb)
set_option maxRecDepth 100000 in
set_option maxHeartbeats 1000000 in
theorem ralike_ok (V : List (List Nat)) (hV : WF V) (t : List Nat) (ht : ∀ c ∈ t, c < V.length) (hl : t.length ≤ 30) (b off cap : Nat) (W : List (List Nat)) (hW : WF W) (u : List Nat) (hu : ∀ c ∈ u, c < W.length) (hul : u.length ≤ 30) (b2 off2 cap2 : Nat) (w : World) (hv : VAt w b off V) (hw : VAt w b2 off2 W) :
    Calls Tryd.prog 40 #[.slice (some ⟨b, off, none⟩) V.length cap, .string (str t), .slice (some ⟨b2, off2, none⟩) W.length cap2, .string (str u)] w fun e w' => e = .returned (alkF V t W u 12 0) ∧ Chg (fun _ => False) w w' := by
  have hn6 := hV.le
  have hm6 := hW.le
  have HBO := Lib.hid (both_ok V hV t ht hl b off cap W hW u hu hul b2 off2 cap2 w hv hw)
  have HV := Lib.hid hv; have HW := Lib.hid hw; have HWV := Lib.hid hV; have HWW := Lib.hid hW; have HT := Lib.hid ht; have HU := Lib.hid hu
  obtain ⟨R, hR⟩ : ∃ R, alkF V t W u 12 0 = R := ⟨_, rfl⟩
  have HR := Lib.hid hR
  rw [hR]
  clear hv hw hV hW ht hu hR
  go_enter Tryd.func40, Tryd.ntmps40
  go_wp2_with fail
  refine HBO.out.mono ?_
  rintro e w1 ⟨rfl, rfl⟩
  go_wp2_with fail
  go_loopg [11] 12 (fun gm kv wr => ∃ y : Nat, y ≤ 12 ∧ gm = 12 - y ∧ kv = .int .i64 y ∧ alkF V t W u (12 - y) y = R ∧ Chg (fun _ => False) w1 wr)
  case atStart => exact ⟨0, by omega, by omega, rfl, HR.out, Chg.refl _ _⟩
  case round =>
    obtain ⟨y, hy, rfl, rfl, hr, hc⟩ := hrel
    have HRR := Lib.hid hr; have HC := Lib.hid hc
    clear hr hc
    by_cases hy12 : y < 12
    · have d0 : decide ((y : Int) < 12) = true := by simp; omega
      obtain ⟨f, hf⟩ : ∃ f, 12 - y = f + 1 := ⟨11 - y, by omega⟩
      have HF := Lib.hid hf
      rw [hf] at HRR
      clear hf
      have HTV := Lib.hid (table_any V HWV.out y (by omega) b off cap wr (HV.out.chg HC.out (fun x => x)))
      go_wp2_with fail
      refine HTV.out.mono ?_
      rintro e w2 ⟨⟨ga, ca, rfl, ha⟩, hc2⟩
      have HA := Lib.hid ha; have HC2 := Lib.hid (HC.out.trans hc2 (fun _ x => x.elim))
      clear ha hc2
      go_wp2_with fail
      refine (table_any W HWW.out y (by omega) b2 off2 cap2 w2 (HW.out.chg HC2.out (fun x => x))).mono ?_
      rintro e w3 ⟨⟨gb, cb, rfl, hb⟩, hc3⟩
      have HB := Lib.hid hb; have HA3 := Lib.hid (HA.out.chg hc3); have HC3 := Lib.hid (HC2.out.trans hc3 (fun _ x => x.elim))
      clear hb hc3
      obtain ⟨g1, c1, t1, t2⟩ := HA3.out y (Nat.le_refl _)
      obtain ⟨g2, c2, u1, u2⟩ := HB.out y (Nat.le_refl _)
      rw [Nat.zero_add] at t1 u1
      have HL1 := Lib.hid (long_any t (tab V y) V.length (by omega) HT.out (tab_len V y) (tab_le V y) (by omega) g1 c1 w3 t2)
      have HL2 := Lib.hid (long_any u (tab W y) W.length (by omega) HU.out (tab_len W y) (tab_le W y) (by omega) g2 c2 w3 u2)
      rw [lng_ln HWV.out HT.out hl (by omega)] at HL1
      rw [lng_ln HWW.out HU.out hul (by omega)] at HL2
      have hyM : (y : Int) < ((y + 1 : Nat) : Int) := by omega
      obtain ⟨M, hM⟩ : ∃ M, y + 1 = M := ⟨_, rfl⟩
      have HMM := Lib.hid hM
      rw [hM] at hyM ⊢
      clear t2 u2 hM
      have HX1 := Lib.hid (fun h => (alkF_len (f := f) (V := V) (t := t) (W := W) (u := u) (y := y) h).symm.trans HRR.out)
      have HX2 := Lib.hid (fun h h' => (alkF_full (f := f) (V := V) (t := t) (W := W) (u := u) (y := y) h h').symm.trans HRR.out)
      have HX3 := Lib.hid (fun h h' => (alkF_ne (f := f) (V := V) (t := t) (W := W) (u := u) (y := y) h h').symm.trans HRR.out)
      have HX4 := Lib.hid (fun h h' => (alkF_eq (f := f) (V := V) (t := t) (W := W) (u := u) (y := y) h h').symm.trans HRR.out)
      obtain ⟨p, hp⟩ : ∃ p, ln V t y = p := ⟨_, rfl⟩
      obtain ⟨q, hq⟩ : ∃ q, ln W u y = q := ⟨_, rfl⟩
      have HP := Lib.hid hp; have HQ := Lib.hid hq
      rw [hp] at HL1; rw [hq] at HL2
      rw [hp, hq] at HX1 HX2
      rw [hp] at HX3 HX4
      clear hp hq
      by_cases hpq : p = q
      · subst hpq
        have HX2' := Lib.hid (HX2.out rfl)
        by_cases hbig : 100000 < p
        · have HRF := Lib.hid (HX2'.out hbig)
          have d5 : decide (100000 < p) = true := by simpa using hbig
          clear HX1 HX2 HX2' HX3 HX4
          go_wp2_with fail
          refine HL1.out.mono ?_
          rintro e w4 ⟨rfl, rfl⟩
          go_wp2_with fail
          refine HL2.out.mono ?_
          rintro e w4 ⟨rfl, rfl⟩
          go_wp2_with fail
          go_ret2
          exact ⟨by rw [← HRF.out]; rfl, HC3.out⟩
        · have d5 : decide (100000 < p) = false := by simpa using hbig
          clear HX1 HX2 HX2'
          go_wp2_with fail
          refine HL1.out.mono ?_
          rintro e w4 ⟨rfl, rfl⟩
          go_wp2_with fail
          refine HL2.out.mono ?_
          rintro e w4 ⟨rfl, rfl⟩
          go_upto_region 13 with (fail)
          go_cut [62] from 50 to 62 (fun cv wx => ∃ x : Bool, cv = .bool x ∧ (x = true ↔ ¬ gen V y t = gen W y u) ∧ Chg (fun _ => False) w1 wx)
          case first =>
            have HD1 := Lib.hid (fun (wz : World) (hz : Chg (fun _ => False) w4 wz) => down_any V HWV.out wz b off cap (HV.out.chg (HC3.out.trans hz (fun _ x => x.elim)) (fun x => x)) ga ca M y (HA3.out.chg hz) (by have := HMM.out; omega) (by omega) y (Nat.le_refl _) t [] HT.out (by omega) (by show (0 : Nat) + (gen V y t).length ≤ _; have h : (gen V y t).length = p := HP.out; omega) (.slice none 0 0) wz (Chg.refl _ _) (.inl ⟨rfl, rfl⟩))
            have HD2 := Lib.hid (fun (wz : World) (hz : Chg (fun _ => False) w4 wz) => down_any W HWW.out wz b2 off2 cap2 (HW.out.chg (HC3.out.trans hz (fun _ x => x.elim)) (fun x => x)) gb cb M y (HB.out.chg hz) (by have := HMM.out; omega) (by omega) y (Nat.le_refl _) u [] HU.out (by omega) (by show (0 : Nat) + (gen W y u).length ≤ _; have h : (gen W y u).length = p := HQ.out; omega) (.slice none 0 0) wz (Chg.refl _ _) (.inl ⟨rfl, rfl⟩))
            have HLA := Lib.hid (show ∀ c ∈ gen V y t, c < 100 from fun c h => by have := gen_lt HWV.out y t HT.out c h; omega)
            have HLB := Lib.hid (show ∀ c ∈ gen W y u, c < 100 from fun c h => by have := gen_lt HWW.out y u HU.out c h; omega)
            simp only [List.nil_append] at HD1 HD2
            have HEQ := Lib.hid (show str (gen V y t) = str (gen W y u) ↔ gen V y t = gen W y u from ⟨fun h => str_inj HLA.out HLB.out h, fun h => by rw [h]⟩)
            obtain ⟨sa, hsa⟩ : ∃ sa, str (gen V y t) = sa := ⟨_, rfl⟩
            obtain ⟨sb, hsb⟩ : ∃ sb, str (gen W y u) = sb := ⟨_, rfl⟩
            have HCA := Lib.hid (fun (wz : World) (base : Nat) (v : Value) (h : OutB wz base v (gen V y t)) => hsa ▸ conv_out h HLA.out)
            have HCB := Lib.hid (fun (wz : World) (base : Nat) (v : Value) (h : OutB wz base v (gen W y u)) => hsb ▸ conv_out h HLB.out)
            rw [hsa, hsb] at HEQ
            have hz0 : Chg (fun _ => False) w4 w4.drew := (Chg.refl _ _).drew
            clear hsa hsb
            go_region_with
              (first
                | (go_at_call 75; with_reducible refine (HD1.out _ hz0).mono ?_; rintro e xa ⟨⟨va, rfl, hoa⟩, hca⟩; have ea := HCA.out _ _ _ hoa)
                | (go_at_call 75; with_reducible refine (HD2.out _ hz0).mono ?_; rintro e xb ⟨⟨vb, rfl, hob⟩, hcb⟩; have eb := HCB.out _ _ _ hob)
                | (go_at_call 75; with_reducible refine (HD1.out _ (hz0.trans hcb (fun _ x => x.elim))).mono ?_; rintro e xa ⟨⟨va, rfl, hoa⟩, hca⟩; have ea := HCA.out _ _ _ hoa; have eb2 := HCB.out _ _ _ (hob.chg hca (fun _ _ x => x)))
                | (go_at_call 75; with_reducible refine (HD2.out _ (hz0.trans hca (fun _ x => x.elim))).mono ?_; rintro e xb ⟨⟨vb, rfl, hob⟩, hcb⟩; have eb := HCB.out _ _ _ hob; have ea2 := HCA.out _ _ _ (hoa.chg hcb (fun _ _ x => x))))
            all_goals
              go_wp2_with fail
              go_meet
              case rel =>
                have hch : Chg (fun _ => False) w1 xb := HC3.out.trans ((hz0.trans hca (fun _ x => x.elim)).trans hcb (fun _ x => x.elim)) (fun _ x => x.elim)
                refine ⟨_, rfl, ?_, hch⟩
                rw [← HEQ.out]
                by_cases h : sa = sb
                · simp [h]
                · have hf : (sa.toList == sb.toList) = false := by rw [← beq_toListBytes]; exact bytes_ne h
                  rw [hf]
                  simp [h]
          case rest =>
            obtain ⟨x, rfl, hx, hcx⟩ := hcut
            have HCX := Lib.hid hcx
            cases x
            · have heq : gen V y t = gen W y u := by
                by_cases h : gen V y t = gen W y u
                · exact h
                · exact absurd (hx.2 h) (by simp)
              have HRN := Lib.hid (HX4.out (by omega) heq)
              clear hx hcx HX3 HX4 heq
              go_wp2_with fail
              go_roundg (12 - (y + 1))
              case measure => omega
              case rel => exact ⟨y + 1, by omega, rfl, by go_num, by rw [show 12 - (y + 1) = f by have := HF.out; omega]; exact HRN.out, HCX.out⟩
            · have HRN := Lib.hid (HX3.out (by omega) (hx.1 rfl))
              clear hx hcx HX3 HX4
              go_wp2_with fail
              go_ret2
              exact ⟨by rw [← HRN.out]; rfl, HCX.out⟩
      · have hpq' : ¬ (p : Int) = (q : Int) := by omega
        have HRF := Lib.hid (HX1.out hpq)
        clear HX1 HX2 HX3 HX4
        go_wp2_with fail
        refine HL1.out.mono ?_
        rintro e w4 ⟨rfl, rfl⟩
        go_wp2_with fail
        refine HL2.out.mono ?_
        rintro e w4 ⟨rfl, rfl⟩
        go_wp2_with fail
        go_ret2
        exact ⟨by rw [← HRF.out]; rfl, HC3.out⟩
    · obtain rfl : y = 12 := by omega
      have HRP : Hid (.tuple #[.int .i64 0, .int .i64 10] = R) := Lib.hid HRR.out
      go_wp2_with fail
      go_ret2
      exact ⟨by rw [← HRP.out]; rfl, HC.out⟩
end Go.Proofs.YtilacamhjibneaaDoor

/- Both Sames, both Alikes at any input; the law VineSame, walked. No condition but the arguments' cells. -/
namespace Go.Proofs.YtilacamhjibneaaDoor
open Go.RowKit

def TwoI (x : Value) : Prop := ∃ a e : Int, x = .tuple #[.int .i64 a, .int .i64 e]
theorem sameF_two (a b : Nat → Nat) : ∀ f y, TwoI (sameF a b f y)
  | 0, _ => ⟨_, _, rfl⟩
  | f + 1, y => by
    rw [sameF]
    split
    · exact sameF_two a b f (y + 1)
    · exact ⟨_, _, rfl⟩
theorem alkF_two (V : List (List Nat)) (t : List Nat) (W : List (List Nat)) (u : List Nat) : ∀ f y, TwoI (alkF V t W u f y)
  | 0, _ => ⟨_, _, rfl⟩
  | f + 1, y => by
    rw [alkF]
    split
    · exact ⟨_, _, rfl⟩
    · split
      · exact ⟨_, _, rfl⟩
      · split
        · exact ⟨_, _, rfl⟩
        · exact alkF_two V t W u f (y + 1)
theorem sm_of {w : World} {v : Value} {P : List ByteArray} {s : ByteArray} (hv : SlS w v P) (hn : P.length ≤ 1000) (hz : ∀ p ∈ P, p.size ≤ 1000) (hzs : s.size ≤ 1000) : ∃ ao b off c, v = .slice ao P.length c ∧ Sm w P s ao b off := by
  obtain ⟨ao, b, off, c, h1, h2, h3⟩ := hv.form
  exact ⟨ao, b, off, c, h1, h2, h3, hn, hz, hzs⟩

theorem both_all (P : List ByteArray) (s : ByteArray) (Q : List ByteArray) (u : ByteArray) (hn : P.length ≤ 1000) (hz : ∀ p ∈ P, p.size ≤ 1000) (hzs : s.size ≤ 1000) (hn2 : Q.length ≤ 1000) (hz2 : ∀ p ∈ Q, p.size ≤ 1000) (hzs2 : u.size ≤ 1000) :
    ∃ (a e a2 e2 : Int), ∀ (v v2 : Value) (w : World), SlS w v P → SlS w v2 Q →
      (Calls Tryd.prog 37 #[v, .string s, v2, .string u] w fun x w' => x = .returned (.tuple #[.int .i64 a, .int .i64 e]) ∧ Chg (fun _ => False) w w') ∧
      (Calls Tryd.prog 38 #[v, .string s, v2, .string u] w fun x w' => x = .returned (.tuple #[.int .i64 a, .int .i64 e]) ∧ Chg (fun _ => False) w w') ∧
      (Calls Tryd.prog 39 #[v, .string s, v2, .string u] w fun x w' => x = .returned (.tuple #[.int .i64 a2, .int .i64 e2]) ∧ Chg (fun _ => False) w w') ∧
      (Calls Tryd.prog 40 #[v, .string s, v2, .string u] w fun x w' => x = .returned (.tuple #[.int .i64 a2, .int .i64 e2]) ∧ Chg (fun _ => False) w w') := by
  by_cases he : bothE P s Q u = 0
  · have h1 : errS P s = 0 := by
      unfold bothE at he
      by_cases h : errS P s = 0
      · exact h
      · rw [if_neg h] at he; exact he
    have h2 : errS Q u = 0 := by unfold bothE at he; rwa [if_pos h1] at he
    obtain ⟨V, t, rfl, rfl, hV, hl, ht⟩ := shot_of h1
    obtain ⟨W, r, rfl, rfl, hW, hl2, hr⟩ := shot_of h2
    obtain ⟨a, e, hS⟩ := sameF_two (ln V t) (ln W r) (V.length + W.length) 0
    obtain ⟨a2, e2, hA⟩ := alkF_two V t W r 12 0
    refine ⟨a, e, a2, e2, fun v v2 w hv hv2 => ?_⟩
    obtain ⟨ao, b, off, cap, rfl, hst, ha⟩ := hv.form
    obtain ⟨bo, b2, off2, cap2, rfl, hst2, ha2⟩ := hv2.form
    have hp := hV.pos
    have hp2 := hW.pos
    obtain rfl := ha.resolve_left (fun e => by have h0 := congrArg List.length e; rw [List.length_map, List.length_nil] at h0; omega)
    obtain rfl := ha2.resolve_left (fun e => by have h0 := congrArg List.length e; rw [List.length_map, List.length_nil] at h0; omega)
    have hva := vat_of hst
    have hvb := vat_of hst2
    rw [List.length_map, List.length_map]
    have k1 := same_ok V hV t ht hl b off cap W hW r hr hl2 b2 off2 cap2 w hva hvb
    have k2 := rsame_ok V hV t ht hl b off cap W hW r hr hl2 b2 off2 cap2 w hva hvb
    have k3 := alike_ok V hV t ht hl b off cap W hW r hr hl2 b2 off2 cap2 w hva hvb
    have k4 := ralike_ok V hV t ht hl b off cap W hW r hr hl2 b2 off2 cap2 w hva hvb
    rw [hS] at k1 k2
    rw [hA] at k3 k4
    exact ⟨k1, k2, k3, k4⟩
  · refine ⟨0, (bothE P s Q u : Nat), 0, (bothE P s Q u : Nat), fun v v2 w hv hv2 => ?_⟩
    obtain ⟨ao, b, off, cap, rfl, h1⟩ := sm_of (s := s) hv hn hz hzs
    obtain ⟨bo, b2, off2, cap2, rfl, h2⟩ := sm_of (s := u) hv2 hn2 hz2 hzs2
    exact ⟨(same_err P s ao cap b off Q u bo cap2 b2 off2 w h1 h2 he).mono fun x w' h => ⟨h.1, by rw [h.2]; exact Chg.refl _ _⟩,
      (rsame_err P s ao cap b off Q u bo cap2 b2 off2 w h1 h2 he).mono fun x w' h => ⟨h.1, by rw [h.2]; exact Chg.refl _ _⟩,
      (alike_err P s ao cap b off Q u bo cap2 b2 off2 w h1 h2 he).mono fun x w' h => ⟨h.1, by rw [h.2]; exact Chg.refl _ _⟩,
      (ralike_err P s ao cap b off Q u bo cap2 b2 off2 w h1 h2 he).mono fun x w' h => ⟨h.1, by rw [h.2]; exact Chg.refl _ _⟩⟩

set_option maxRecDepth 100000 in
set_option maxHeartbeats 1000000 in
theorem vineSame_law (P : List ByteArray) (s : ByteArray) (Q : List ByteArray) (u : ByteArray) (v v2 : Value) (w : World) (hv : SlS w v P) (hs : s.size ≤ maxLen) (hv2 : SlS w v2 Q) (hu : u.size ≤ maxLen) :
    Calls Tryd.prog 10 #[v, .string s, v2, .string u] w fun e w' => e = .returned (.bool true) ∧ Chg (fun _ => False) w w' := by
  have HF := Lib.hid (few_any P s v w hv hs)
  have HF2 := Lib.hid (few_any Q u v2 w hv2 hu)
  by_cases hfew : fewV P s = true
  · by_cases hfew2 : fewV Q u = true
    · obtain ⟨hn, hz, hzs⟩ := few_small hfew
      obtain ⟨hn2, hz2, hzs2⟩ := few_small hfew2
      rw [hfew] at HF
      rw [hfew2] at HF2
      obtain ⟨a, e, a2, e2, hb⟩ := both_all P s Q u hn hz hzs hn2 hz2 hzs2
      have HB := Lib.hid hb
      have HV := Lib.hid hv; have HV2 := Lib.hid hv2
      clear hb hfew hfew2 hn hz hzs hn2 hz2 hzs2 hv hv2
      go_enter Tryd.func10, Tryd.ntmps10
      go_wp2_with fail
      refine HF.out.mono ?_
      rintro e w1 ⟨rfl, rfl⟩
      go_wp2_with fail
      refine HF2.out.mono ?_
      rintro e w1 ⟨rfl, rfl⟩
      go_wp2_with fail
      refine ((HB.out v v2 w1 HV.out HV2.out).1).mono ?_
      rintro e w2 ⟨rfl, hc2⟩
      have HC2 := Lib.hid hc2
      clear hc2
      go_wp2_with fail
      refine ((HB.out v v2 w2 (HV.out.chg HC2.out) (HV2.out.chg HC2.out)).2.1).mono ?_
      rintro e w3 ⟨rfl, hc3⟩
      have HC3 := Lib.hid (HC2.out.trans hc3 (fun _ x => x.elim))
      clear hc3
      go_wp2_with fail
      refine ((HB.out v v2 w3 (HV.out.chg HC3.out) (HV2.out.chg HC3.out)).2.2.1).mono ?_
      rintro e w4 ⟨rfl, hc4⟩
      have HC4 := Lib.hid (HC3.out.trans hc4 (fun _ x => x.elim))
      clear hc4
      go_wp2_with fail
      refine ((HB.out v v2 w4 (HV.out.chg HC4.out) (HV2.out.chg HC4.out)).2.2.2).mono ?_
      rintro e w5 ⟨rfl, hc5⟩
      have HC5 := Lib.hid (HC4.out.trans hc5 (fun _ x => x.elim))
      clear hc5
      go_wp2_with fail
      refine (alive_any w5).mono ?_
      rintro e w6 ⟨rfl, hc6⟩
      have HC6 := Lib.hid (HC5.out.trans hc6 (fun _ x => x.elim))
      clear hc6
      go_wp2_with fail
      go_ret
      exact ⟨rfl, HC6.out⟩
    · have hff : fewV Q u = false := by simpa using hfew2
      rw [hfew] at HF
      rw [hff] at HF2
      clear hfew hff hfew2 hv hv2
      go_enter Tryd.func10, Tryd.ntmps10
      go_wp2_with fail
      refine HF.out.mono ?_
      rintro e w1 ⟨rfl, rfl⟩
      go_wp2_with fail
      refine HF2.out.mono ?_
      rintro e w1 ⟨rfl, rfl⟩
      go_wp2_with fail
      refine (alive_any w1).mono ?_
      rintro e w2 ⟨rfl, hc2⟩
      have HC2 := Lib.hid hc2
      clear hc2
      go_wp2_with fail
      go_ret
      exact ⟨rfl, HC2.out⟩
  · have hff : fewV P s = false := by simpa using hfew
    rw [hff] at HF
    clear hfew hff hv hv2
    go_enter Tryd.func10, Tryd.ntmps10
    go_wp2_with fail
    refine HF.out.mono ?_
    rintro e w1 ⟨rfl, rfl⟩
    go_wp2_with fail
    refine (alive_any w1).mono ?_
    rintro e w2 ⟨rfl, hc2⟩
    have HC2 := Lib.hid hc2
    clear hc2
    go_wp2_with fail
    go_ret
    exact ⟨rfl, HC2.out⟩
end Go.Proofs.YtilacamhjibneaaDoor
