/- turn.steps, walked: the steps of a ring. Its conditions are its premises. -/
import Derived.Test.YtgamekcjjpjnnaaA11
import Derived.Laws.BitsAllLaws
set_option linter.unusedVariables false
namespace Go.Proofs.Ytgamekcjjpjnnaa
open Go.RowKit

theorem wrap64_nat (x : Nat) (h : x < 9223372036854775808) : wrap64 (x : Int) = x := by
  unfold wrap64
  omega
theorem i64_and_nat (a b : Nat) (ha : a < 9223372036854775808) (hb : b < 9223372036854775808) : bits .and .i64 (a : Int) (b : Int) = ((a &&& b : Nat) : Int) := by
  have hx : a &&& b < 2 ^ 63 := Nat.and_lt_two_pow _ (by omega)
  show IntKind.i64.wrap ((BitVec.ofInt 64 (a : Int) &&& BitVec.ofInt 64 (b : Int)).toNat : Int) = _
  rw [BitVec.toNat_and, ofInt_u64 a (by omega), ofInt_u64 b (by omega)]
  rw [IntKind.wrap_i64]
  omega
theorem i64_or_nat (a b : Nat) (ha : a < 9223372036854775808) (hb : b < 9223372036854775808) : bits .or .i64 (a : Int) (b : Int) = ((a ||| b : Nat) : Int) := by
  have hx : a ||| b < 2 ^ 63 := Nat.or_lt_two_pow (by omega) (by omega)
  show IntKind.i64.wrap ((BitVec.ofInt 64 (a : Int) ||| BitVec.ofInt 64 (b : Int)).toNat : Int) = _
  rw [BitVec.toNat_or, ofInt_u64 a (by omega), ofInt_u64 b (by omega)]
  rw [IntKind.wrap_i64]
  omega
theorem i64_pow {c : Nat} (hc : c < 62) : wrap64 ((2 : Int) ^ c) = ((2 ^ c : Nat) : Int) := by
  have h1 : 2 ^ c < 2 ^ 62 := Nat.pow_lt_pow_right (by omega) hc
  rw [show (2 : Int) ^ c = ((2 ^ c : Nat) : Int) by simp]
  exact wrap64_nat _ (by omega)

theorem small_and {a b : Nat} (ha : a < 64) (hb : b < 64) : bits .and .i64 (a : Int) (b : Int) = ((a &&& b : Nat) : Int) := i64_and_nat a b (Nat.lt_of_lt_of_le ha (by decide)) (Nat.lt_of_lt_of_le hb (by decide))
theorem small_or {a b : Nat} (ha : a < 64) (hb : b < 64) : bits .or .i64 (a : Int) (b : Int) = ((a ||| b : Nat) : Int) := i64_or_nat a b (Nat.lt_of_lt_of_le ha (by decide)) (Nat.lt_of_lt_of_le hb (by decide))
theorem small_pow {c P : Nat} (hc : c < 6) (h : 2 ^ c = P) : wrap64 ((2 : Int) ^ c) = (P : Int) ∧ P < 64 := by
  have h1 : 2 ^ c < 2 ^ 6 := Nat.pow_lt_pow_right (by omega) hc
  subst h
  exact ⟨i64_pow (by omega), h1⟩
/-- Is an event among those met? -/
theorem met_bit {s f P : Nat} (h : 2 ^ f = P) : s &&& P = 0 ↔ s.testBit f = false := by
  subst h
  constructor
  · intro h0
    cases h1 : s.testBit f with
    | false => rfl
    | true =>
      have h2 : (s &&& 2 ^ f).testBit f = true := by rw [Nat.testBit_and, h1, Nat.testBit_two_pow_self]; rfl
      rw [h0] at h2
      simp at h2
  · intro h1
    apply Nat.eq_of_testBit_eq
    intro i
    by_cases hi : f = i
    · subst hi; simp [Nat.testBit_and, h1]
    · simp [Nat.testBit_and, Nat.testBit_two_pow_of_ne hi]
theorem met_iff {t n : Int} {l : List Sp} (hv : Valid t n l) {R : List Int} {m F P : Nat} (hk : ∀ i, i < m → kOk l (hr R i)) (h : 2 ^ F = P) : seenN l R m &&& P = 0 ↔ ¬ ∃ i, i < m ∧ (kSp l (hr R i)).src = (F : Int) := by
  rw [met_bit h]
  have e1 := seenN_bit l R m F
  have e2 : (∃ i, i < m ∧ (kSp l (hr R i)).src.toNat = F) ↔ ∃ i, i < m ∧ (kSp l (hr R i)).src = (F : Int) := by
    constructor
    · rintro ⟨i, h1, h2⟩
      have := kSp_ok hv (hk i h1)
      exact ⟨i, h1, by omega⟩
    · rintro ⟨i, h1, h2⟩
      exact ⟨i, h1, by omega⟩
  rw [← e2, ← e1]
  simp

/-- The cells of a step. -/
def stepCells (l : List Sp) (k : Int) : List Value :=
  [.int .i64 (l.getD (k.natAbs - 1) default).src, .int .i64 (l.getD (k.natAbs - 1) default).dst, .int .i64 (l.getD (k.natAbs - 1) default).lo, .int .i64 (l.getD (k.natAbs - 1) default).hi, .bool (decide (0 < k))]

def stepsCells (l : List Sp) (R : List Int) : Nat → List Value
  | 0 => []
  | m + 1 => stepsCells l R m ++ stepCells l (hr R m)

theorem stepsCells_len (l : List Sp) (R : List Int) (m : Nat) : (stepsCells l R m).length = m * 5 := by
  induction m with
  | zero => rfl
  | succ m ih => simp only [stepsCells, List.length_append, ih]; simp [stepCells]; omega

theorem stepsCells_get {l : List Sp} {R : List Int} {m i : Nat} (hi : i < m) {j : Nat} (hj : j < 5) : (stepsCells l R m)[i * 5 + j]? = (stepCells l (hr R i))[j]? := by
  induction m with
  | zero => omega
  | succ m ih =>
    simp only [stepsCells]
    by_cases he : i = m
    · subst he
      rw [List.getElem?_append_right (by rw [stepsCells_len]; omega), stepsCells_len]
      congr 1
      omega
    · rw [List.getElem?_append_left (by rw [stepsCells_len]; omega)]
      exact ih (by omega)

theorem stepsCells_one (l : List Sp) (R : List Int) (m : Nat) : ∀ v ∈ stepsCells l R m, v.oneCell' = true := by
  induction m with
  | zero => intro v hv; cases hv
  | succ m ih =>
    intro v hv
    simp only [stepsCells, List.mem_append] at hv
    rcases hv with hv | hv
    · exact ih v hv
    · simp [stepCells] at hv
      rcases hv with rfl | rfl | rfl | rfl | rfl <;> rfl

theorem kSp_src (l : List Sp) (k : Int) : (if decide (0 < k) = true then (l.getD (k.natAbs - 1) default).src else (l.getD (k.natAbs - 1) default).dst) = (kSp l k).src := by
  unfold kSp; by_cases h : 0 < k <;> simp [h]
theorem kSp_dst (l : List Sp) (k : Int) : (if decide (0 < k) = true then (l.getD (k.natAbs - 1) default).dst else (l.getD (k.natAbs - 1) default).src) = (kSp l k).dst := by
  unfold kSp; by_cases h : 0 < k <;> simp [h]

/-- The shape of what owns n > 0 elements. -/
theorem owns_form {w : World} {base : Nat} {e : TypeId} {sz : Nat} {v : Value} {n : Nat} {xs : List Value} (h : w.ownsRow base e sz v n xs) :
    ∃ ao c, v = .slice ao n c ∧ (0 < n → ∃ g, ao = some ⟨g, 0, none⟩ ∧ base ≤ g ∧ g < w.heap.size ∧ ∀ j u, xs[j]? = some u → w.cell? ⟨g, j, none⟩ = some u) := by
  rcases h.2 with ⟨rfl, rfl⟩ | ⟨g, c, cur, rfl, hb, hg, hn, hc, hsz, htk⟩
  · exact ⟨none, 0, rfl, fun h => absurd h (by omega)⟩
  · refine ⟨_, c, rfl, fun _ => ⟨g, rfl, hb, (Array.getElem?_eq_some_iff.1 hg).1, fun j u hu => ?_⟩⟩
    have := h.cells (g := g) rfl j u hu
    rwa [add_plain, Nat.zero_add] at this

theorem Chg.of_grownRow {w w' : World} {row : Option Nat} (h : w.grownBy w' row) : Chg (fun k => some k = row) w w' := ⟨h.os, h.tape, h.output, h.size, fun k hk hn => h.block k hk hn⟩

theorem owns_chg {w w' : World} {base : Nat} {e : TypeId} {sz : Nat} {v : Value} {n : Nat} {xs : List Value} (h : w.ownsRow base e sz v n xs) (hc : Chg (fun _ => False) w w') : w'.ownsRow base e sz v n xs :=
  h.kept (row := none) ⟨hc.os, hc.tape, hc.output, hc.size, fun k hk _ => hc.block k hk (fun x => x)⟩ (by cases v.ownBlock <;> simp)

theorem info59 : (Try.prog.info? 59).map (fun i => (i.zero, i.size, i.bytes)) = some (some (.agg #[.int .i64 0, .int .i64 0, .int .i64 0, .int .i64 0, .bool false]), 5, 40) := by kernel_rfl

set_option maxRecDepth 100000 in
set_option maxHeartbeats 2000000 in
theorem steps_any (T N : Nat) (l : List Sp) (a ar : Option Addr) (cap cr : Nat) (w : World) (p b off br or_ : Nat) (R : List Int) (hs : SpansAt w b off l) (ha : l = [] ∨ a = some ⟨b, off, none⟩) (hv : Valid T N l) (hp : PlanAt w p T N (.slice a l.length cap))
    (hR : IntsAt w br or_ R) (har : R = [] ∨ ar = some ⟨br, or_, none⟩) (hl : R.length ≤ 1000) :
    Calls Try.prog 58 #[.pointer (some ⟨p, 0, none⟩), .slice ar R.length cr] w fun e w' => ∃ v m bb, e = .returned (.tuple #[v, .bool bb]) ∧ w'.ownsRow w.heap.size 59 5 v m (stepsCells l R m) ∧
      (bb = true ↔ isRing N l R) ∧ (bb = true → m = R.length) ∧ Chain l R m ∧ m ≤ R.length ∧ Chg (fun _ => False) w w' := by
  obtain ⟨i0, hi0, hz0, hz1, hz2⟩ := info_parts info59
  have hp1 := hp.2.1
  have hp2 := hp.2.2
  by_cases h2 : R.length < 2
  · have d1 : decide ((R.length : Int) < 2) = true := by simp; omega
    have hno := Lib.hid (show ¬ isRing N l R from fun h => by have := h.1; omega)
    clear hi0 hz0 hz1 hz2 hs ha hv hR har
    go_enter Try.func58, Try.ntmps58
    go_wp2
    go_ret2
    exact ⟨_, 0, false, rfl, World.ownsRow_nil _ _ _ _, ⟨fun h => (by cases h), fun h => absurd h hno.out⟩, fun h => (by cases h), Chain.zero, by omega, Chg.refl _ w⟩
  · have d1 : decide ((R.length : Int) < 2) = false := by simp; omega
    by_cases h3 : N < R.length
    · have d2 : decide ((N : Int) < (R.length : Int)) = true := by simp; omega
      have hno := Lib.hid (show ¬ isRing N l R from fun h => by have := h.2.1; omega)
      clear hi0 hz0 hz1 hz2 hs ha hv hR har
      go_enter Try.func58, Try.ntmps58
      go_wp2
      go_ret2
      exact ⟨_, 0, false, rfl, World.ownsRow_nil _ _ _ _, ⟨fun h => (by cases h), fun h => absurd h hno.out⟩, fun h => (by cases h), Chain.zero, by omega, Chg.refl _ w⟩
    · have d2 : decide ((N : Int) < (R.length : Int)) = false := by simp; omega
      have hne2 : ar = some ⟨br, or_, none⟩ := har.resolve_left (by intro h; simp [h] at h2)
      subst hne2
      have HS := Lib.hid hs; have HA := Lib.hid ha; have HV := Lib.hid hv; have HP := Lib.hid hp; have HR := Lib.hid hR; have HI0 := Lib.hid hi0; have HZ0 := Lib.hid hz0; have HZ1 := Lib.hid hz1; have HZ2 := Lib.hid hz2
      clear hi0 hz0 hz1 hz2 hs ha hv hR har hp
      go_enter Try.func58, Try.ntmps58
      go_wp2
      go_loopg [33, 6, 7] R.length (fun g i ov sn wr => ∃ m, m ≤ R.length ∧ g = R.length - m ∧ i = .int .i64 (m : Nat) ∧ sn = .int .i64 (seenN l R m : Nat) ∧ wr.ownsRow w.heap.size 59 5 ov m (stepsCells l R m) ∧ Chain l R m ∧ Chg (fun _ => False) w wr)
      case atStart => exact ⟨0, by omega, by omega, rfl, rfl, World.ownsRow_nil _ _ _ _, Chain.zero, Chg.refl _ w⟩
      case round =>
        obtain ⟨m, hm, rfl, rfl, rfl, hown, hch, hcg⟩ := hrel
        clear hp1 hp2
        have g1 := (HP.out.chg hcg (fun x => x)).2.1
        have g2 := (HP.out.chg hcg (fun x => x)).2.2
        by_cases hmR : m < R.length
        · have gk := HR.out.chg hcg (fun x => x) m hmR
          have ek : R[m] = hr R m := by unfold hr; rw [List.getD_eq_getElem?_getD, List.getElem?_eq_getElem hmR]; rfl
          rw [ek] at gk
          clear ek
          obtain ⟨k, hk⟩ : ∃ k, hr R m = k := ⟨_, rfl⟩
          rw [hk] at gk
          have HK := Lib.hid hk; have HOWN := Lib.hid hown; have HCH := Lib.hid hch
          clear hk hown hch
          by_cases hok : kOk l k
          · have hb := kSp_ok HV.out hok
            have HOK := Lib.hid hok
            obtain ⟨q1, q2, q3⟩ := hok
            have hlt : k.natAbs - 1 < l.length := by omega
            have hne : a = some ⟨b, off, none⟩ := HA.out.resolve_left (by intro h; simp [h] at hlt)
            subst hne
            have hl20 := HV.out.len
            obtain ⟨c0, c1, c2, c3⟩ := HS.out.chg hcg (fun x => x) _ hlt
            have e : l.getD (k.natAbs - 1) default = l[k.natAbs - 1] := by rw [List.getD_eq_getElem?_getD, List.getElem?_eq_getElem hlt]; rfl
            rw [← e] at c0 c1 c2 c3
            have ecells : stepCells l k = [.int .i64 (l.getD (k.natAbs - 1) default).src, .int .i64 (l.getD (k.natAbs - 1) default).dst, .int .i64 (l.getD (k.natAbs - 1) default).lo, .int .i64 (l.getD (k.natAbs - 1) default).hi, .bool (decide (0 < k))] := rfl
            have es := kSp_src l k
            have ed := kSp_dst l k
            obtain ⟨K, hK⟩ : ∃ K, k.natAbs - 1 = K := ⟨_, rfl⟩
            rw [hK] at c0 c1 c2 c3 es ed hlt ecells
            generalize l.getD K default = s at c0 c1 c2 c3 es ed ecells
            have d1 : (k == 0) = false := by simp; omega
            have d2 : decide (k < -(l.length : Int)) = false := by simp; omega
            have d3 : decide ((l.length : Int) < k) = false := by simp; omega
            have hmax : max k (-k) = (K : Int) + 1 := by omega
            have hwn : wrap64 (-k) = -k := by unfold wrap64; omega
            obtain ⟨F, hF⟩ : ∃ F : Nat, (kSp l k).src = F := ⟨(kSp l k).src.toNat, by omega⟩
            clear e
            have HCG := Lib.hid hcg; have HES := Lib.hid es; have HED := Lib.hid ed; have HK2 := Lib.hid hK; have HB := Lib.hid hb; have HF := Lib.hid hF; have HE := Lib.hid ecells
            clear hcg es ed hK hb hF ecells
            have hif : (if k < -k then -k else k) = (K : Int) + 1 := by have := HK2.out; split <;> omega
            obtain ⟨bl, hbl⟩ : ∃ bl, decide (0 < k) = bl := ⟨_, rfl⟩
            have es := HES.out; have ed := HED.out; have ecells := HE.out
            rw [hbl] at es ed ecells
            clear HE
            have HE := Lib.hid ecells; clear ecells
            have HES2 := Lib.hid es; have HED2 := Lib.hid ed
            clear es ed HES HED
            obtain ⟨Pw, hPw⟩ : ∃ Pw, 2 ^ F = Pw := ⟨_, rfl⟩
            have hF6 : F < 6 := by have := HB.out; have := HF.out; have := HV.out.n2; omega
            have hmin : min F 64 = F := by omega
            have hpw := (small_pow hF6 hPw).1
            have hP64 := (small_pow hF6 hPw).2
            have hbit := met_iff HV.out HCH.out.ok (m := m) hPw
            obtain ⟨sn, hsn⟩ : ∃ sn, seenN l R m = sn := ⟨_, rfl⟩
            have hs64 : sn < 64 := by rw [← hsn]; exact seenN_lt HV.out HCH.out.ok
            have hand := small_and hs64 hP64
            have hor := small_or hs64 hP64
            rw [hsn] at hbit
            obtain ⟨ao, c, rfl, hform⟩ := owns_form HOWN.out
            have HFM := Lib.hid hform; have HBIT := Lib.hid hbit; have HPW := Lib.hid hPw; have HSN := Lib.hid hsn; have HF6 := Lib.hid hF6
            clear hform hbit hPw hF6 hs64 hP64
            have hsn' := hsn; clear hsn
            rw [hsn']
            clear hsn'
            by_cases hz : sn &&& Pw = 0
            · have hq : (((sn &&& Pw : Nat) : Int) != 0) = false := by rw [hz]; rfl
              have HZ := Lib.hid hz; clear hz
              by_cases hm0 : m = 0
              · have dm : decide (0 < m) = false := by simp [hm0]
                have HNX := Lib.hid (show 0 < m → (kSp l (hr R (m - 1))).dst = (kSp l k).src from fun h => by omega)
                have HM0 := Lib.hid hm0; clear hm0
                go_wp2_with fail
                refine (ends_any s.src s.dst s.lo s.hi bl _).mono ?_
                rw [HES2.out, HED2.out, HF.out]
                rintro e w' ⟨rfl, x, rfl⟩
                have hB := (Blk.new wr #[.int .i64 s.src, .int .i64 s.dst, .int .i64 s.lo, .int .i64 s.hi, .bool bl] 59).grow x
                have hC : Chg (fun _ => False) wr _ := ((Chg.refl _ wr).alloc (Obj.cells #[.int .i64 s.src, .int .i64 s.dst, .int .i64 s.lo, .int .i64 s.hi, .bool bl] 59)).grow x
                generalize (wr.alloc (Obj.cells #[.int .i64 s.src, .int .i64 s.dst, .int .i64 s.lo, .int .i64 s.hi, .bool bl] 59)).grow x = W at hB hC ⊢
                have b0 := hB.cell_some (i := 0) rfl
                have b1 := hB.cell_some (i := 1) rfl
                have b2 := hB.cell_some (i := 2) rfl
                have b3 := hB.cell_some (i := 3) rfl
                have b4 := hB.cell_some (i := 4) rfl
                have HC := Lib.hid hC; have HBW := Lib.hid hB
                clear hC hB
                go_wp2_with (at_builtin; refine wpList_append_own _ rfl (.tmp 102) (.tmp 104) 73 rfl w.heap.size 59 i0 _ 5 40 Try.underlying73 HI0.out HZ0.out HZ1.out HZ2.out rfl (by decide) _ (m) (stepsCells l R (m)) rfl ((owns_chg HOWN.out HC.out).alloc _) ⟨W.heap.size, 0, none⟩ 1 1 (stepCells l k) rfl rfl ?c1 ?c2 ?c3 ?c4 ?c5 ?_; rotate_left 5; intro v1 w1 hown1 hgrow1 _; have HOWN1 := Lib.hid hown1; have HGROW1 := Lib.hid hgrow1; clear hown1 hgrow1)
                case c1 =>
                  rw [HE.out]
                  intro j u hu
                  rw [add_plain, Nat.zero_add]
                  exact (Blk.new W #[.int .i64 s.src, .int .i64 s.dst, .int .i64 s.lo, .int .i64 s.hi, .bool bl] 59).cell_some hu
                case c2 => rw [HE.out]; intro u hu; simp at hu; rcases hu with rfl | rfl | rfl | rfl | rfl <;> rfl
                case c3 => simp [maxLen]; omega
                case c4 => omega
                case c5 => have := HCG.out.size; have := HC.out.size; simp; omega
                go_roundg (R.length - (m + 1))
                case measure => omega
                case rel =>
                  refine ⟨m + 1, by omega, rfl, by go_num, ?_, ?_, ?_, ?_⟩
                  · rw [seenN, HSN.out, HK.out, HF.out, Int.toNat_natCast, HPW.out]
                  · rw [stepsCells, HK.out]; exact HOWN1.out
                  · refine HCH.out.step (by rw [HK.out]; exact HOK.out) (fun i hi h => ?_) ?_
                    · refine (HBIT.out.1 HZ.out) ⟨i, hi, ?_⟩
                      rw [h, HK.out, HF.out]
                    · rw [HK.out]
                      exact HNX.out
                  · refine ((HCG.out.trans HC.out (fun _ x => x.elim)).alloc _).trans (Chg.of_grownRow HGROW1.out) (fun kk hk => .inr ?_)
                    exact (HOWN.out.lt kk hk.symm).1
              · obtain ⟨m', rfl⟩ : ∃ m', m = m' + 1 := ⟨m - 1, by omega⟩
                obtain ⟨g, rfl, hg1, hg2, hcells⟩ := HFM.out (by omega)
                have ecells' : stepCells l (hr R m') = [.int .i64 (l.getD ((hr R m').natAbs - 1) default).src, .int .i64 (l.getD ((hr R m').natAbs - 1) default).dst, .int .i64 (l.getD ((hr R m').natAbs - 1) default).lo, .int .i64 (l.getD ((hr R m').natAbs - 1) default).hi, .bool (decide (0 < hr R m'))] := rfl
                have es' := kSp_src l (hr R m')
                have ed' := kSp_dst l (hr R m')
                generalize l.getD ((hr R m').natAbs - 1) default = s' at es' ed' ecells'
                obtain ⟨bl', hbl'⟩ : ∃ bl', decide (0 < hr R m') = bl' := ⟨_, rfl⟩
                rw [hbl'] at es' ed' ecells'
                have p0 := hcells (m' * 5) _ ((stepsCells_get (l := l) (R := R) (m := m' + 1) (i := m') (j := 0) (by omega) (by omega)).trans (by rw [ecells']; rfl))
                have p1 := hcells (m' * 5 + 1) _ ((stepsCells_get (l := l) (R := R) (m := m' + 1) (i := m') (by omega) (by omega)).trans (by rw [ecells']; rfl))
                have p2 := hcells (m' * 5 + 2) _ ((stepsCells_get (l := l) (R := R) (m := m' + 1) (i := m') (by omega) (by omega)).trans (by rw [ecells']; rfl))
                have p3 := hcells (m' * 5 + 3) _ ((stepsCells_get (l := l) (R := R) (m := m' + 1) (i := m') (by omega) (by omega)).trans (by rw [ecells']; rfl))
                have p4 := hcells (m' * 5 + 4) _ ((stepsCells_get (l := l) (R := R) (m := m' + 1) (i := m') (by omega) (by omega)).trans (by rw [ecells']; rfl))
                have dm : decide (0 < (m' : Int) + 1) = true := by rw [decide_eq_true_eq]; omega
                obtain ⟨D', hD'⟩ : ∃ D', (kSp l (hr R m')).dst = D' := ⟨_, rfl⟩
                rw [hD'] at ed'
                have HES' := Lib.hid es'; have HED' := Lib.hid ed'; have HD' := Lib.hid hD'
                clear es' ed' hD' ecells' hbl' hcells
                by_cases hnx : D' = (F : Int)
                · have dq : (D' != (F : Int)) = false := by simp [hnx]
                  have HNX := Lib.hid (show 0 < m' + 1 → (kSp l (hr R (m' + 1 - 1))).dst = (kSp l k).src from fun _ => by rw [Nat.add_sub_cancel, HD'.out, HF.out]; exact hnx)
                  clear hnx
                  go_wp2_with fail
                  refine (ends_any s.src s.dst s.lo s.hi bl _).mono ?_
                  rw [HES2.out, HED2.out, HF.out]
                  rintro e w' ⟨rfl, x, rfl⟩
                  have hB := (Blk.new wr #[.int .i64 s.src, .int .i64 s.dst, .int .i64 s.lo, .int .i64 s.hi, .bool bl] 59).grow x
                  have hC : Chg (fun _ => False) wr _ := ((Chg.refl _ wr).alloc (Obj.cells #[.int .i64 s.src, .int .i64 s.dst, .int .i64 s.lo, .int .i64 s.hi, .bool bl] 59)).grow x
                  generalize (wr.alloc (Obj.cells #[.int .i64 s.src, .int .i64 s.dst, .int .i64 s.lo, .int .i64 s.hi, .bool bl] 59)).grow x = W at hB hC ⊢
                  replace p0 := hC.cell_some p0 (fun x => x)
                  replace p1 := hC.cell_some p1 (fun x => x)
                  replace p2 := hC.cell_some p2 (fun x => x)
                  replace p3 := hC.cell_some p3 (fun x => x)
                  replace p4 := hC.cell_some p4 (fun x => x)
                  have b0 := hB.cell_some (i := 0) rfl
                  have b1 := hB.cell_some (i := 1) rfl
                  have b2 := hB.cell_some (i := 2) rfl
                  have b3 := hB.cell_some (i := 3) rfl
                  have b4 := hB.cell_some (i := 4) rfl
                  have HC := Lib.hid hC; have HBW := Lib.hid hB
                  clear hC hB
                  go_wp2_with fail
                  refine (ends_any s'.src s'.dst s'.lo s'.hi bl' _).mono ?_
                  rw [HES'.out, HED'.out]
                  rintro e w' ⟨rfl, x2, rfl⟩
                  have hC2 : Chg (fun _ => False) W _ := (Chg.refl _ W).grow x2
                  replace HC := Lib.hid (HC.out.trans hC2 (fun _ x => x.elim))
                  have hB2 := HBW.out.grow x2
                  generalize W.grow x2 = W2 at HC hB2 ⊢
                  clear hC2 HBW b0 b1 b2 b3 b4 p0 p1 p2 p3 p4 W
                  have b0 := hB2.cell_some (i := 0) rfl
                  have b1 := hB2.cell_some (i := 1) rfl
                  have b2 := hB2.cell_some (i := 2) rfl
                  have b3 := hB2.cell_some (i := 3) rfl
                  have b4 := hB2.cell_some (i := 4) rfl
                  clear hB2
                  go_wp2_with (at_builtin; refine wpList_append_own _ rfl (.tmp 102) (.tmp 104) 73 rfl w.heap.size 59 i0 _ 5 40 Try.underlying73 HI0.out HZ0.out HZ1.out HZ2.out rfl (by decide) _ (m' + 1) (stepsCells l R (m' + 1)) rfl ((owns_chg HOWN.out HC.out).alloc _) ⟨W2.heap.size, 0, none⟩ 1 1 (stepCells l k) rfl rfl ?c1 ?c2 ?c3 ?c4 ?c5 ?_; rotate_left 5; intro v1 w1 hown1 hgrow1 _; have HOWN1 := Lib.hid hown1; have HGROW1 := Lib.hid hgrow1; clear hown1 hgrow1)
                  case c1 =>
                    rw [HE.out]
                    intro j u hu
                    rw [add_plain, Nat.zero_add]
                    exact (Blk.new W2 #[.int .i64 s.src, .int .i64 s.dst, .int .i64 s.lo, .int .i64 s.hi, .bool bl] 59).cell_some hu
                  case c2 => rw [HE.out]; intro u hu; simp at hu; rcases hu with rfl | rfl | rfl | rfl | rfl <;> rfl
                  case c3 => simp [maxLen]; omega
                  case c4 => omega
                  case c5 => have := HCG.out.size; have := HC.out.size; simp; omega
                  go_roundg (R.length - (m' + 1 + 1))
                  case measure => omega
                  case rel =>
                    refine ⟨m' + 1 + 1, by omega, rfl, by go_num, ?_, ?_, ?_, ?_⟩
                    · rw [seenN, HSN.out, HK.out, HF.out, Int.toNat_natCast, HPW.out]
                    · rw [stepsCells, HK.out]; exact HOWN1.out
                    · refine HCH.out.step (by rw [HK.out]; exact HOK.out) (fun i hi h => ?_) ?_
                      · refine (HBIT.out.1 HZ.out) ⟨i, hi, ?_⟩
                        rw [h, HK.out, HF.out]
                      · rw [HK.out]
                        exact HNX.out
                    · refine ((HCG.out.trans HC.out (fun _ x => x.elim)).alloc _).trans (Chg.of_grownRow HGROW1.out) (fun kk hk => .inr ?_)
                      exact (HOWN.out.lt kk hk.symm).1
                · have dq : (D' != (F : Int)) = true := by simp [hnx]
                  have hno := Lib.hid (show ¬ isRing N l R from fun h => hnx (by have := h.2.2.1.next m' (by omega); rw [HD'.out, HK.out, HF.out] at this; exact this))
                  clear hnx
                  go_wp2_with fail
                  refine (ends_any s.src s.dst s.lo s.hi bl _).mono ?_
                  rw [HES2.out, HED2.out, HF.out]
                  rintro e w' ⟨rfl, x, rfl⟩
                  have hB := (Blk.new wr #[.int .i64 s.src, .int .i64 s.dst, .int .i64 s.lo, .int .i64 s.hi, .bool bl] 59).grow x
                  have hC : Chg (fun _ => False) wr _ := ((Chg.refl _ wr).alloc (Obj.cells #[.int .i64 s.src, .int .i64 s.dst, .int .i64 s.lo, .int .i64 s.hi, .bool bl] 59)).grow x
                  generalize (wr.alloc (Obj.cells #[.int .i64 s.src, .int .i64 s.dst, .int .i64 s.lo, .int .i64 s.hi, .bool bl] 59)).grow x = W at hB hC ⊢
                  replace p0 := hC.cell_some p0 (fun x => x)
                  replace p1 := hC.cell_some p1 (fun x => x)
                  replace p2 := hC.cell_some p2 (fun x => x)
                  replace p3 := hC.cell_some p3 (fun x => x)
                  replace p4 := hC.cell_some p4 (fun x => x)
                  have b0 := hB.cell_some (i := 0) rfl
                  have b1 := hB.cell_some (i := 1) rfl
                  have b2 := hB.cell_some (i := 2) rfl
                  have b3 := hB.cell_some (i := 3) rfl
                  have b4 := hB.cell_some (i := 4) rfl
                  have HC := Lib.hid hC; have HBW := Lib.hid hB
                  clear hC hB
                  go_wp2_with fail
                  refine (ends_any s'.src s'.dst s'.lo s'.hi bl' _).mono ?_
                  rw [HES'.out, HED'.out]
                  rintro e w' ⟨rfl, x2, rfl⟩
                  have hC2 : Chg (fun _ => False) W _ := (Chg.refl _ W).grow x2
                  go_wp2_with fail
                  go_ret2
                  exact ⟨_, 0, false, rfl, World.ownsRow_nil _ _ _ _, ⟨fun h => (by cases h), fun h => absurd h hno.out⟩, fun h => (by cases h), Chain.zero, by omega, (HCG.out.trans HC.out (fun _ x => x.elim)).trans hC2 (fun _ x => x.elim)⟩
            · have hq : (((sn &&& Pw : Nat) : Int) != 0) = true := by rw [bne_iff_ne]; exact fun h => hz (Int.ofNat.inj h)
              have hno := Lib.hid (show ¬ isRing N l R from fun h => hz (HBIT.out.2 (fun ⟨i, h1, h2⟩ => h.2.2.1.new i m h1 hmR (by rw [h2, HK.out, HF.out]))))
              clear hz
              go_wp2_with fail
              refine (ends_any s.src s.dst s.lo s.hi bl _).mono ?_
              rw [HES2.out, HED2.out, HF.out]
              rintro e w' ⟨rfl, x, rfl⟩
              have hC : Chg (fun _ => False) wr _ := ((Chg.refl _ wr).alloc (Obj.cells #[.int .i64 s.src, .int .i64 s.dst, .int .i64 s.lo, .int .i64 s.hi, .bool bl] 59)).grow x
              go_wp2_with fail
              go_ret2
              exact ⟨_, 0, false, rfl, World.ownsRow_nil _ _ _ _, ⟨fun h => (by cases h), fun h => absurd h hno.out⟩, fun h => (by cases h), Chain.zero, by omega, HCG.out.trans hC (fun _ x => x.elim)⟩
          · have hno := Lib.hid (show ¬ isRing N l R from fun h => hok (by have := h.2.2.1.ok m hmR; rwa [HK.out] at this))
            have hok' : k = 0 ∨ k ≠ 0 ∧ k < -(l.length : Int) ∨ k ≠ 0 ∧ ¬ k < -(l.length : Int) ∧ (l.length : Int) < k := by unfold kOk at hok; omega
            have hl20 := HV.out.len
            have HCG := Lib.hid hcg
            clear hok hcg
            rcases hok' with rfl | ⟨h1, h2⟩ | ⟨h1, h2, h3⟩
            · go_wp2_with fail
              go_ret2
              exact ⟨_, 0, false, rfl, World.ownsRow_nil _ _ _ _, ⟨fun h => (by cases h), fun h => absurd h hno.out⟩, fun h => (by cases h), Chain.zero, by omega, HCG.out⟩
            · have e1 : (k == 0) = false := by simp; omega
              have e2 : decide (k < -(l.length : Int)) = true := by simp; omega
              clear h1 h2
              go_wp2_with fail
              go_ret2
              exact ⟨_, 0, false, rfl, World.ownsRow_nil _ _ _ _, ⟨fun h => (by cases h), fun h => absurd h hno.out⟩, fun h => (by cases h), Chain.zero, by omega, HCG.out⟩
            · have e1 : (k == 0) = false := by simp; omega
              have e2 : decide (k < -(l.length : Int)) = false := by simp; omega
              have e3 : decide ((l.length : Int) < k) = true := by simp; omega
              clear h1 h2 h3
              go_wp2_with fail
              go_ret2
              exact ⟨_, 0, false, rfl, World.ownsRow_nil _ _ _ _, ⟨fun h => (by cases h), fun h => absurd h hno.out⟩, fun h => (by cases h), Chain.zero, by omega, HCG.out⟩
        · obtain ⟨m', rfl⟩ : ∃ m', m = m' + 1 := ⟨m - 1, by omega⟩
          have hmL : R.length = m' + 1 := by omega
          have dl : decide ((m' : Int) + 1 < (R.length : Int)) = false := by rw [decide_eq_false_iff_not]; omega
          obtain ⟨ao, c, rfl, hform⟩ := owns_form hown
          obtain ⟨g, rfl, hg1, hg2, hcells⟩ := hform (by omega)
          have hk0 := hch.ok 0 (by omega)
          have hkm := hch.ok m' (by omega)
          have hbit : isRing N l R ↔ (kSp l (hr R 0)).src = (kSp l (hr R m')).dst := by
            constructor
            · intro h
              have := h.2.2.2
              rw [hmL, Nat.add_sub_cancel] at this
              omega
            · intro h
              refine ⟨by omega, by omega, by rw [hmL]; exact hch, ?_⟩
              rw [hmL, Nat.add_sub_cancel]
              omega
          have ec0 : stepCells l (hr R 0) = [.int .i64 (l.getD ((hr R 0).natAbs - 1) default).src, .int .i64 (l.getD ((hr R 0).natAbs - 1) default).dst, .int .i64 (l.getD ((hr R 0).natAbs - 1) default).lo, .int .i64 (l.getD ((hr R 0).natAbs - 1) default).hi, .bool (decide (0 < hr R 0))] := rfl
          have es0 := kSp_src l (hr R 0)
          have ed0 := kSp_dst l (hr R 0)
          generalize l.getD ((hr R 0).natAbs - 1) default = s0 at es0 ed0 ec0
          obtain ⟨bl0, hbl0⟩ : ∃ bl0, decide (0 < hr R 0) = bl0 := ⟨_, rfl⟩
          rw [hbl0] at es0 ed0 ec0
          have q0 := hcells 0 _ ((stepsCells_get (l := l) (R := R) (m := m' + 1) (i := 0) (j := 0) (by omega) (by omega)).trans (by rw [ec0]; rfl))
          have q1 := hcells 1 _ ((stepsCells_get (l := l) (R := R) (m := m' + 1) (i := 0) (j := 1) (by omega) (by omega)).trans (by rw [ec0]; rfl))
          have q2 := hcells 2 _ ((stepsCells_get (l := l) (R := R) (m := m' + 1) (i := 0) (j := 2) (by omega) (by omega)).trans (by rw [ec0]; rfl))
          have q3 := hcells 3 _ ((stepsCells_get (l := l) (R := R) (m := m' + 1) (i := 0) (j := 3) (by omega) (by omega)).trans (by rw [ec0]; rfl))
          have q4 := hcells 4 _ ((stepsCells_get (l := l) (R := R) (m := m' + 1) (i := 0) (j := 4) (by omega) (by omega)).trans (by rw [ec0]; rfl))
          have ecm : stepCells l (hr R m') = [.int .i64 (l.getD ((hr R m').natAbs - 1) default).src, .int .i64 (l.getD ((hr R m').natAbs - 1) default).dst, .int .i64 (l.getD ((hr R m').natAbs - 1) default).lo, .int .i64 (l.getD ((hr R m').natAbs - 1) default).hi, .bool (decide (0 < hr R m'))] := rfl
          have esm := kSp_src l (hr R m')
          have edm := kSp_dst l (hr R m')
          generalize l.getD ((hr R m').natAbs - 1) default = s' at esm edm ecm
          obtain ⟨bl', hbl'⟩ : ∃ bl', decide (0 < hr R m') = bl' := ⟨_, rfl⟩
          rw [hbl'] at esm edm ecm
          have p0 := hcells (m' * 5) _ ((stepsCells_get (l := l) (R := R) (m := m' + 1) (i := m') (j := 0) (by omega) (by omega)).trans (by rw [ecm]; rfl))
          have p1 := hcells (m' * 5 + 1) _ ((stepsCells_get (l := l) (R := R) (m := m' + 1) (i := m') (by omega) (by omega)).trans (by rw [ecm]; rfl))
          have p2 := hcells (m' * 5 + 2) _ ((stepsCells_get (l := l) (R := R) (m := m' + 1) (i := m') (by omega) (by omega)).trans (by rw [ecm]; rfl))
          have p3 := hcells (m' * 5 + 3) _ ((stepsCells_get (l := l) (R := R) (m := m' + 1) (i := m') (by omega) (by omega)).trans (by rw [ecm]; rfl))
          have p4 := hcells (m' * 5 + 4) _ ((stepsCells_get (l := l) (R := R) (m := m' + 1) (i := m') (by omega) (by omega)).trans (by rw [ecm]; rfl))
          obtain ⟨D', hD'⟩ : ∃ D', (kSp l (hr R m')).dst = D' := ⟨_, rfl⟩
          obtain ⟨F', hF'⟩ : ∃ F', (kSp l (hr R 0)).src = F' := ⟨_, rfl⟩
          rw [hD'] at edm hbit
          rw [hF'] at es0 hbit
          have HES := Lib.hid es0; have HED := Lib.hid edm; have HES2 := Lib.hid ed0; have HED2 := Lib.hid esm; have HBIT := Lib.hid hbit; have HML := Lib.hid hmL
          have HCH := Lib.hid hch; have HOWN := Lib.hid hown; have HCG := Lib.hid hcg
          clear es0 ed0 esm edm ec0 ecm hbl0 hbl' hbit hmL hch hown hcg hk0 hkm hF' hD' hform hcells
          go_wp2_with fail
          refine (ends_any s0.src s0.dst s0.lo s0.hi bl0 _).mono ?_
          rw [HES.out, HES2.out]
          rintro e w' ⟨rfl, x, rfl⟩
          have hC : Chg (fun _ => False) wr _ := (Chg.refl _ wr).grow x
          replace p0 := hC.cell_some p0 (fun x => x)
          replace p1 := hC.cell_some p1 (fun x => x)
          replace p2 := hC.cell_some p2 (fun x => x)
          replace p3 := hC.cell_some p3 (fun x => x)
          replace p4 := hC.cell_some p4 (fun x => x)
          have HC := Lib.hid hC; clear hC
          go_wp2_with fail
          refine (ends_any s'.src s'.dst s'.lo s'.hi bl' _).mono ?_
          rw [HED.out, HED2.out]
          rintro e w' ⟨rfl, x2, rfl⟩
          have hC2 : Chg (fun _ => False) wr _ := HC.out.grow x2
          go_wp2_with fail
          go_ret2
          refine ⟨_, m' + 1, F' == D', rfl, ?_, ?_, fun _ => HML.out.symm, HCH.out, by omega, HCG.out.trans hC2 (fun _ x => x.elim)⟩
          · exact owns_chg HOWN.out hC2
          · rw [HBIT.out]; simp
end Go.Proofs.Ytgamekcjjpjnnaa
