/- Both Recurrences at any input; the law VineRecurs, walked. No condition but the arguments' cells. -/
import Derived.Test.YtilacamhjibneaaDoorV67
import Derived.Test.YtilacamhjibneaaDoorV37
set_option linter.unusedVariables false
namespace Go.Proofs.YtilacamhjibneaaDoor
open Go.RowKit

theorem sli_chg {w w' : World} {v : Value} {X : List Int} (h : SlI w v X) (hc : Chg (fun _ => False) w w') : SlI w' v X := by
  obtain ⟨ao, g, off, c, h1, h2, h3⟩ := h
  exact ⟨ao, g, off, c, h1, h2, h3.chg hc (fun x => x)⟩
def sv (P : List ByteArray) : List Value := P.map Value.string
theorem info9 : (Tryd.prog.info? 9).map (fun i => (i.zero, i.size, i.bytes)) = some (some (.string ⟨#[]⟩), 1, 16) := by kernel_rfl
/-- Strings behind nothing of the call's own. -/
theorem wpList_appS {w : World} {ops : Array Oper} {rest : List Oper} {o : Oper} {a : Act} {Q : Exit → Act → World → Prop} (hgd : o.guard = none) (sl x : Operand)
    (ho : o.op = .call { callee := .builtin .append, args := #[sl, x], argTypes := #[22, 22] }) (base : Nat) (v : Value) (t : List ByteArray) (hs : a.eval sl = v) (hown : w.ownsRow base 9 1 v 0 [])
    (bo : Option Addr) (c : Nat) (hx : a.eval x = .slice bo t.length c) (hsrc : t = [] ∨ ∃ g off, bo = some ⟨g, off, none⟩ ∧ StrsAt w g off t) (hl : t.length ≤ 100000) (hb : base ≤ w.heap.size)
    (hK : ∀ v' w', (∃ ao b off c, v' = .slice ao t.length c ∧ StrsAt w' b off t ∧ (t = [] ∨ ao = some ⟨b, off, none⟩)) → Chg (fun k => base ≤ k) w w' → wpList Tryd.prog ops Q rest (a.put o.dst v') w') : wpList Tryd.prog ops Q (o :: rest) a w := by
  obtain ⟨i0, h0, h1, h2, h3⟩ := info_parts info9
  refine wpList_append_all hgd sl x 22 ho base 9 i0 _ 1 16 Tryd.underlying22 h0 h1 h2 h3 rfl (by decide) v 0 [] hs hown bo t.length c (sv t) hx (by simp [sv]) ?_ ?_ (by unfold maxLen; omega) (by omega) hb ?_
  · rcases hsrc with rfl | ⟨g, off, rfl, hn⟩
    · exact .inl rfl
    · refine .inr ⟨_, rfl, fun j u hj => ?_⟩
      rw [add_plain]
      unfold sv at hj
      rw [List.getElem?_map] at hj
      by_cases hjt : j < t.length
      · rw [List.getElem?_eq_getElem hjt] at hj
        cases hj
        exact hn j hjt
      · rw [List.getElem?_eq_none (by omega)] at hj
        cases hj
  · intro u hu
    unfold sv at hu
    obtain ⟨x, _, rfl⟩ := List.mem_map.1 hu
    rfl
  · intro v' w' r1 r2 r3
    rw [Nat.zero_add, List.nil_append] at r1
    refine hK v' w' ?_ ((Chg.of_grownRow r2).mono (fun k hk => ?_))
    · by_cases ht : t = []
      · subst ht
        obtain ⟨ao, c, rfl, _⟩ := owns_form r1
        exact ⟨ao, 0, 0, c, rfl, fun k hk => by simp at hk, .inl rfl⟩
      · obtain ⟨g, c, rfl, _, hq⟩ := QueB.of_owns r1 (List.length_pos_iff.2 ht)
        refine ⟨_, g, 0, c, rfl, fun k hk => ?_, .inr rfl⟩
        exact hq.at_ k _ (by unfold sv; rw [List.getElem?_map, List.getElem?_eq_getElem hk]; rfl)
    · rcases hown.2 with ⟨rfl, _⟩ | ⟨g, cc, cur, rfl, hg, _⟩
      · simp [Value.ownBlock] at hk
      · simp [Value.ownBlock] at hk
        omega
/-- What both return: numbers and an error. -/
def RetI (X : List Int) (e : Int) (w : World) (r : Ending) (w' : World) : Prop := (∃ v, r = .returned (.tuple #[v, .int .i64 e]) ∧ SlI w' v X) ∧ Chg (fun _ => False) w w'
set_option maxRecDepth 100000 in
set_option maxHeartbeats 1000000 in
theorem rec_both (P : List ByteArray) (s : ByteArray) (hn : P.length ≤ 1000) (hz : ∀ p ∈ P, p.size ≤ 1000) (hzs : s.size ≤ 1000) :
    ∃ (X : List Int) (e : Int), X.length ≤ 10 ∧ ∀ (v : Value) (w : World), SlS w v P → Calls Tryd.prog 19 #[v, .string s] w (RetI X e w) ∧ Calls Tryd.prog 20 #[v, .string s] w (RetI X e w) := by
  by_cases he : errS P s = 0
  · obtain ⟨V, t, rfl, rfl, hV, hl, ht⟩ := shot_of he
    have h6 := hV.le
    refine ⟨cofs V, 0, by simp [cofs]; omega, fun v w hv => ?_⟩
    obtain ⟨ao, b, off, cap, rfl, hst, ha⟩ := hv.form
    have hpos := hV.pos
    obtain rfl := ha.resolve_left (fun e => by have h0 := congrArg List.length e; rw [List.length_map, List.length_nil] at h0; omega)
    have hva := vat_of hst
    have hlen : (cofs V).length = V.length := by simp [cofs]
    rw [List.length_map]
    refine ⟨(recurrence_ok V hV t ht hl b off cap w hva).mono ?_, (rrecurrence_ok V hV t ht hl b off cap w hva).mono ?_⟩
    · rintro r w' ⟨⟨g, c, rfl, hi, _⟩, hc⟩
      rw [recV_cofs hV] at hi
      exact ⟨⟨_, rfl, _, g, 0, c, by rw [hlen], .inr rfl, hi⟩, hc⟩
    · rintro r w' ⟨⟨g, c, rfl, hi⟩, hc⟩
      exact ⟨⟨_, rfl, _, g, 0, c, by rw [hlen], .inr rfl, hi⟩, hc⟩
  · refine ⟨[], (errS P s : Nat), by simp, fun v w hv => ?_⟩
    obtain ⟨ao, b, off, cap, rfl, hst, ha⟩ := hv.form
    have HS := Lib.hid (shot_any P s ao cap b off w hst ha hn hz hzs)
    rw [show shotV ao cap P s = .tuple #[.slice none 0 0, .int .i64 (errS P s : Nat)] by unfold shotV; rw [if_neg he]] at HS
    have HR := Lib.hid (rshoot_any P s ao cap b off w hst ha hn hz hzs)
    have HN := Lib.hid (show SlI w (.slice none 0 0) [] from ⟨none, 0, 0, 0, rfl, .inl rfl, fun k hk => by simp at hk⟩)
    obtain ⟨E, hE⟩ : ∃ E, errS P s = E := ⟨_, rfl⟩
    rw [hE] at HS HR ⊢
    have dn : (((E : Nat) : Int) != 0) = true := by simpa [hE] using he
    clear hE he hst ha hv
    constructor
    · go_enter Tryd.func19, Tryd.ntmps19
      go_wp2_with fail
      refine HS.out.mono ?_
      rintro e w1 ⟨rfl, rfl⟩
      go_wp2_with fail
      go_ret2
      exact ⟨⟨_, rfl, HN.out⟩, Chg.refl _ _⟩
    · go_enter Tryd.func20, Tryd.ntmps20
      go_wp2_with fail
      refine HR.out.mono ?_
      rintro e w1 ⟨rfl, rfl⟩
      go_wp2_with fail
      go_ret2
      exact ⟨⟨_, rfl, HN.out⟩, Chg.refl _ _⟩

set_option maxRecDepth 100000 in
set_option maxHeartbeats 1000000 in
theorem vineRecurs_law (P : List ByteArray) (s : ByteArray) (v : Value) (w : World) (hv : SlS w v P) (hs : s.size ≤ maxLen) :
    Calls Tryd.prog 4 #[v, .string s] w fun e w' => e = .returned (.bool true) ∧ Chg (fun _ => False) w w' := by
  have HF := Lib.hid (few_any P s v w hv hs)
  by_cases hfew : fewV P s = true
  · obtain ⟨hn, hz, hzs⟩ := few_small hfew
    rw [hfew] at HF
    obtain ⟨X, e0, hX, hb⟩ := rec_both P s hn hz hzs
    have HB := Lib.hid hb
    have HV := Lib.hid hv
    obtain ⟨ao, b, off, cap, rfl, hst, ha⟩ := hv.form
    have HST := Lib.hid hst; have HA := Lib.hid ha
    clear hb hfew hst ha
    go_enter Tryd.func4, Tryd.ntmps4
    go_wp2_with fail
    refine HF.out.mono ?_
    rintro e w1 ⟨rfl, rfl⟩
    obtain ⟨g0, hg0⟩ : ∃ g0, w1.heap.size = g0 := ⟨_, rfl⟩
    have HOE := Lib.hid (owns_empty (g := g0) (base := g0) (size := 1) (by rw [← hg0]; exact Blk.new w1 #[] 9 : Blk (w1.alloc (.cells #[] 9)) g0 9 []) (Nat.le_refl _))
    have HGS := Lib.hid (show g0 ≤ (w1.alloc (.cells #[] 9)).heap.size by rw [← hg0]; exact ((Chg.refl (fun _ => False) w1).alloc _).size)
    have HCW := Lib.hid ((Chg.refl (fun _ => False) w1).alloc (.cells #[] 9))
    have HG0 := Lib.hid hg0
    go_wp2_with (at_builtin; refine wpList_appS rfl (.tmp 16) (.tmp 17) rfl g0 (.slice (some ⟨g0, 0, none⟩) 0 0) P (by simp [Act.eval]) HOE.out ao cap (by simp [Act.eval]) (HA.out.imp id (fun h => ⟨b, off, h, HST.out.chg HCW.out (fun x => x)⟩)) (by omega) HGS.out ?_; intro ov w2 hsl hc2)
    have HSO := Lib.hid (show SlS w2 ov P from ⟨hsl, HV.out.len, HV.out.each⟩)
    have HC2 := Lib.hid (show Chg (fun _ => False) w1 w2 from chg_new (HCW.out.mono (fun _ x => x.elim)) (hc2.mono (fun k hk => by rw [HG0.out]; exact hk)))
    clear hsl hc2 hg0
    obtain ⟨oo, ob, oof, oc, rfl, hso, hoo⟩ := HSO.out.form
    have HOS := Lib.hid hso; have HOO := Lib.hid hoo
    clear hso hoo
    go_wp2_with fail
    refine ((HB.out _ w2 HSO.out).1).mono ?_
    rintro r w3 ⟨⟨va, rfl, hsa⟩, hc3⟩
    have HSA := Lib.hid hsa; have HC3 := Lib.hid (HC2.out.trans hc3 (fun _ x => x.elim)); have HC23 := Lib.hid hc3
    clear hsa hc3
    go_wp2_with fail
    refine ((HB.out _ w3 (HV.out.chg HC3.out)).2).mono ?_
    rintro r w4 ⟨⟨vb, rfl, hsb⟩, hc4⟩
    have HSB := Lib.hid hsb; have HC4 := Lib.hid (HC3.out.trans hc4 (fun _ x => x.elim)); have HSA4 := Lib.hid (HSA.out.imp fun _ h => h) ; have HC24 := Lib.hid (HC23.out.trans hc4 (fun _ x => x.elim))
    have HSAX := Lib.hid (sli_chg HSA.out hc4)
    clear hsb hc4 HSA4
    go_wp2_with fail
    go_loopg [10] P.length (fun gm iv wr => ∃ i : Nat, i ≤ P.length ∧ gm = P.length - i ∧ iv = .int .i64 i ∧ Chg (fun _ => False) w4 wr)
    case atStart => exact ⟨0, by omega, by omega, rfl, Chg.refl _ _⟩
    case round =>
      obtain ⟨i, hi, rfl, rfl, hc⟩ := hrel
      have HC := Lib.hid hc
      clear hc
      by_cases hin : i < P.length
      · have d0 : decide (i < P.length) = true := by simpa using hin
        obtain rfl := HA.out.resolve_left (fun e => by rw [e] at hin; simp at hin)
        obtain rfl := HOO.out.resolve_left (fun e => by rw [e] at hin; simp at hin)
        have c0 := (HST.out.chg (HC4.out.trans HC.out (fun _ x => x.elim)) (fun x => x)) i hin
        have c1 := (HOS.out.chg (HC24.out.trans HC.out (fun _ x => x.elim)) (fun x => x)) i hin
        obtain ⟨q, hq⟩ : ∃ q, P[i] = q := ⟨_, rfl⟩
        rw [hq] at c0 c1
        clear hq
        go_wp2_with fail
        go_quiet (fail)
        go_wp2_with fail
        go_roundg (P.length - (i + 1))
        case measure => omega
        case rel => exact ⟨i + 1, by omega, rfl, by go_num, HC.out.drewN nq⟩
      · obtain rfl : i = P.length := by omega
        have HSM := Lib.hid (same_any X X va vb wr (sli_chg HSAX.out HC.out) (sli_chg HSB.out HC.out) (by omega) (by omega))
        rw [show decide (X = X) = true by simp] at HSM
        go_wp2_with fail
        refine HSM.out.mono ?_
        rintro r w5 ⟨rfl, q, rfl⟩
        go_wp2_with fail
        refine (alive_any _).mono ?_
        rintro e w6 ⟨rfl, hc6⟩
        have HC6 := Lib.hid ((HC4.out.trans ((HC.out.drewN q)) (fun _ x => x.elim)).trans hc6 (fun _ x => x.elim))
        clear hc6
        go_wp2_with fail
        go_ret
        exact ⟨rfl, HC6.out⟩
  · have hff : fewV P s = false := by simpa using hfew
    rw [hff] at HF
    clear hfew hff hv
    go_enter Tryd.func4, Tryd.ntmps4
    go_wp2_with fail
    refine HF.out.mono ?_
    rintro e w1 ⟨rfl, rfl⟩
    go_wp2_with fail
    refine (alive_any w1).mono ?_
    rintro e w2 ⟨rfl, hc2⟩
    have HC2 := Lib.hid hc2
    clear hc2
    go_wp2_with fail
    go_ret
    exact ⟨rfl, HC2.out⟩
end Go.Proofs.YtilacamhjibneaaDoor
