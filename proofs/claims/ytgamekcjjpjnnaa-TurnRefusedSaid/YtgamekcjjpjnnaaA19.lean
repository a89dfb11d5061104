/- The reference's search for a ring, and its Ring, walked. Their conditions are their premises. -/
import Derived.Test.YtgamekcjjpjnnaaA18
set_option linter.unusedVariables false
namespace Go.Proofs.Ytgamekcjjpjnnaa
open Go.RowKit

/-- What the reference's search leaves. -/
def RefPost (r : Option (List Int)) (w : World) (e : Ending) (w' : World) : Prop :=
  Chg (fun _ => False) w w' ∧ match r with
    | none => e = .returned (.slice none 0 0)
    | some X => ∃ g c, e = .returned (.slice (some ⟨g, 0, none⟩) X.length c) ∧ IntsAt w' g 0 X

theorem hr_i64 {l : List Sp} {R : List Int} {i : Nat} (hl : l.length ≤ 20) (h : kOk l (hr R i)) : I64 (hr R i) := by
  obtain ⟨_, h1, h2⟩ := h
  constructor <;> omega

theorem ring_mem {l : List Sp} {R : List Int} (hl : l.length ≤ 20) (h : Chain l R R.length) : ∀ x ∈ R, I64 x := fun x hx => by
  obtain ⟨i, hi, rfl⟩ := List.getElem_of_mem hx
  have := hr_i64 hl (h.ok i hi)
  unfold hr at this
  rwa [List.getD_eq_getElem?_getD, List.getElem?_eq_getElem hi] at this

theorem ringEnd_ring {T N : Nat} {l : List Sp} {R : List Int} (hv : Valid T N l) (hch : Chain l R R.length) (h2 : 2 ≤ R.length) :
    ringEnd T l R = true ↔ isRing N l R ∧ sumHi l R R.length - sumLo l R R.length < -(sumLo l R R.length) % (T : Int) := by
  have hfew := hch.few hv
  unfold ringEnd
  rw [decide_eq_true_eq]
  constructor
  · rintro ⟨h, h'⟩
    exact ⟨⟨h2, by omega, hch, h.symm⟩, by omega⟩
  · rintro ⟨h, h'⟩
    exact ⟨h.2.2.2.symm, by omega⟩

set_option maxRecDepth 100000 in
set_option maxHeartbeats 1000000 in
theorem rring_leaf (T N : Nat) (l : List Sp) (hv : Valid T N l) (b off : Nat) (a : Option Addr) (cap : Nat) (ha : l = [] ∨ a = some ⟨b, off, none⟩) (R : List Int) (br cr : Nat) (w : World)
    (hs : SpansAt w b off l) (h2 : 2 ≤ R.length) (hR : IntsAt w br 0 R) (hch : Chain l R R.length) :
    Calls Try.prog 48 #[.int .i64 T, .slice a l.length cap, .int .i64 R.length, .slice (some ⟨br, 0, none⟩) R.length cr] w (RefPost (ringSearch T l 0 R) w) := by
  have HE := Lib.hid (ringEnd_ring hv hch h2)
  have HI := Lib.hid (IsRing_any T N l a (some ⟨br, 0, none⟩) cap cr w b off br 0 R hs ha hv hR (.inr rfl) (ring_mem hv.len hch))
  have ht1 := hv.t1; have ht2 := hv.t2
  have hsb := sum_bounds hv hch.ok
  have hfew := hch.few hv
  have hn2 := hv.n2
  have HR := Lib.hid hR
  clear hs hv hR hch
  go_enter Try.func48, Try.ntmps48
  go_wp2_with fail
  refine HI.out.mono ?_
  rintro e w' ⟨x, y, bb, rfl, hb, hxy, hc⟩
  have HC := Lib.hid hc; have HB := Lib.hid hb
  clear hc hb
  cases bb with
  | false =>
    go_wp2_with fail
    go_ret
    have h0 : ringSearch T l 0 R = none := by
      unfold ringSearch
      rw [if_neg]
      intro h
      have := HB.out.2 (HE.out.1 h).1
      cases this
    rw [h0]
    exact ⟨HC.out, rfl⟩
  | true =>
    obtain ⟨rfl, rfl⟩ := hxy rfl
    obtain ⟨lo, hlo⟩ : ∃ lo, sumLo l R R.length = lo := ⟨_, rfl⟩
    obtain ⟨hi, hhi⟩ : ∃ hi, sumHi l R R.length = hi := ⟨_, rfl⟩
    rw [hlo, hhi] at hsb ⊢
    have HLO := Lib.hid hlo; have HHI := Lib.hid hhi
    clear hlo hhi hxy
    go_wp2_with fail
    refine (rrefuses_any lo hi T w' (by omega) (by omega) (by omega) (by omega) (by omega) (by omega)).mono ?_
    rintro e w'' ⟨rfl, rfl⟩
    by_cases hd : hi - lo < -lo % (T : Int)
    · have dd : decide (hi - lo < -lo % (T : Int)) = true := by simpa using hd
      rw [dd]
      clear dd
      go_wp2_with fail
      go_ret
      have h0 : ringSearch T l 0 R = some R := by
        unfold ringSearch
        rw [if_pos (HE.out.2 ⟨HB.out.1 (by simp), by rw [HLO.out, HHI.out]; exact hd⟩)]
      rw [h0]
      exact ⟨HC.out, br, cr, rfl, HR.out.chg HC.out (fun x => x)⟩
    · have dd : decide (hi - lo < -lo % (T : Int)) = false := by simpa using hd
      rw [dd]
      clear dd
      go_wp2_with fail
      go_ret
      have h0 : ringSearch T l 0 R = none := by
        unfold ringSearch
        rw [if_neg]
        intro h
        have := (HE.out.1 h).2
        rw [HLO.out, HHI.out] at this
        omega
      rw [h0]
      exact ⟨HC.out, rfl⟩

set_option maxRecDepth 100000 in
set_option maxHeartbeats 4000000 in
theorem rring_step (T N : Nat) (l : List Sp) (hv : Valid T N l) (b off L : Nat) (a : Option Addr) (cap : Nat) (ha : l = [] ∨ a = some ⟨b, off, none⟩) (hL : L ≤ N) (m : Nat) (R : List Int) (br cr : Nat) (w : World)
    (hs : SpansAt w b off l) (hm : R.length + (m + 1) = L) (h1 : 1 ≤ R.length) (hR : IntsAt w br 0 R) (hcr : R.length ≤ cr) (hch : Chain l R R.length)
    (ih : ∀ (k : Int) (g c : Nat) (w' : World), stepOk l R k → SpansAt w' b off l → IntsAt w' g 0 (R ++ [k]) → (R ++ [k]).length ≤ c →
      Calls Try.prog 48 #[.int .i64 T, .slice a l.length cap, .int .i64 L, .slice (some ⟨g, 0, none⟩) (R ++ [k]).length c] w' (RefPost (ringSearch T l m (R ++ [k])) w')) :
    Calls Try.prog 48 #[.int .i64 T, .slice a l.length cap, .int .i64 L, .slice (some ⟨br, 0, none⟩) R.length cr] w (RefPost (ringSearch T l (m + 1) R) w) := by
  obtain ⟨i0, hi0, hz0, hz1, hz2⟩ := info_parts info3
  have hneq : ∀ (w : World) (a : Option Addr) (n c n' c' : Nat), (binOp .neq 25 (.slice a n c) (.slice none n' c')).run Try.prog w = .ok (.bool (!a.isNone)) w := fun w a n c n' c' => run_neq_slice_nil_any w 25 3 a n c n' c' Try.underlying25
  have hl20 := hv.len
  have hn2 := hv.n2
  have hm6 : R.length + (m + 1) ≤ 6 := by omega
  obtain ⟨r0, hr0⟩ : ∃ r0, ringSearch T l (m + 1) R = r0 := ⟨_, rfl⟩
  rw [hr0]
  have hkl0 := hch.ok (R.length - 1) (by omega)
  obtain ⟨kl, hkl1⟩ : ∃ kl, hr R (R.length - 1) = kl := ⟨_, rfl⟩
  have hrl : w.cell? ⟨br, R.length - 1, none⟩ = some (.int .i64 kl) := by
    have := hR (R.length - 1) (by omega)
    rw [Nat.zero_add] at this
    rw [this, ← hkl1]
    unfold hr
    rw [List.getD_eq_getElem?_getD, List.getElem?_eq_getElem (show R.length - 1 < R.length by omega)]
    rfl
  rw [hkl1] at hkl0
  have dlen : ((R.length : Int) == (L : Int)) = false := by rw [beq_eq_false_iff_ne]; omega
  have dz : ((R.length : Int) == 0) = false := by rw [beq_eq_false_iff_ne]; omega
  have dp : decide (0 < R.length) = true := by rw [decide_eq_true_eq]; omega
  obtain ⟨A, hA⟩ : ∃ A, (kSp l kl).dst = A := ⟨_, rfl⟩
  have HSO := Lib.hid (stepV_ok hkl0)
  have HV := Lib.hid hv; have HA := Lib.hid ha; have HS := Lib.hid hs; have HR := Lib.hid hR; have HCH := Lib.hid hch; have HI := Lib.hid ih; have HR0 := Lib.hid hr0; have HKL := Lib.hid hkl1; have HRL := Lib.hid hrl; have HAT := Lib.hid hA
  have HM := Lib.hid hm; have HKI := Lib.hid (hr_i64 (R := [kl]) (i := 0) hl20 hkl0)
  have HI0 := Lib.hid hi0; have HZ0 := Lib.hid hz0; have HZ1 := Lib.hid hz1; have HZ2 := Lib.hid hz2
  clear hv ha hs hR hch ih hr0 hm hi0 hz0 hz1 hz2 hkl1 hrl hkl0 hA
  go_enter Try.func48, Try.ntmps48
  go_wp2
  go_loopg [12] (2 * l.length + 1) (fun g kv wr => ∃ k : Int, -(l.length : Int) ≤ k ∧ k ≤ l.length + 1 ∧ g = (l.length + 1 - k).toNat ∧ kv = .int .i64 k ∧
    (∀ k' : Int, -(l.length : Int) ≤ k' → k' < k → cand T l m R k' = none) ∧ Chg (fun _ => False) w wr)
  case atStart => exact ⟨-(l.length : Int), by omega, by omega, by omega, rfl, fun k' h1 h2 => by omega, Chg.refl _ w⟩
  case round =>
    obtain ⟨k, hk1, hk2, rfl, rfl, hno, hcg⟩ := hrel
    have HNO := Lib.hid hno; have HCG := Lib.hid hcg
    clear hno hcg
    by_cases hkl : k ≤ l.length
    · have dk : decide (k ≤ (l.length : Int)) = true := by simpa using hkl
      by_cases hk0 : k = 0
      · have HNOT := Lib.hid (show ¬ stepOk l R k from fun h => h.1.1 hk0)
        have dk0 : (k == 0) = true := by simpa using hk0
        have HCX := HCG
        clear hk0
        go_wp2_with fail
        go_roundg ((l.length : Int) + 1 - (k + 1)).toNat
        case measure => omega
        case rel => exact ⟨k + 1, by omega, by omega, rfl, by go_num, none_next HNO.out (cand_skip HNOT.out), HCX.out⟩
      · have dk0 : (k == 0) = false := by simpa using hk0
        have hok : kOk l k := ⟨hk0, hk1, hkl⟩
        have gl := HCG.out.cell_some HRL.out (fun x => x)
        have HOK := Lib.hid hok; have HSK := Lib.hid (stepV_ok hok); have HKI2 := Lib.hid (hr_i64 (R := [k]) (i := 0) hl20 hok)
        clear hok hk0
        go_wp2_with fail
        refine (step_any l a cap wr b off kl (HS.out.chg HCG.out (fun x => x)) HA.out (by omega) HKI.out (valid_bounds HV.out)).mono ?_
        rw [HSO.out, HAT.out]
        rintro e w' ⟨rfl, x, rfl⟩
        have HCW := Lib.hid (HCG.out.grow x)
        clear gl
        generalize wr.grow x = W at HCW ⊢
        go_wp2_with fail
        refine (step_any l a cap W b off k (HS.out.chg HCW.out (fun x => x)) HA.out (by omega) HKI2.out (valid_bounds HV.out)).mono ?_
        obtain ⟨F, hF⟩ : ∃ F, (kSp l k).src = F := ⟨_, rfl⟩
        rw [HSK.out, hF]
        have HF := Lib.hid hF
        clear hF
        rintro e w' ⟨rfl, x, rfl⟩
        have HCX := Lib.hid (HCW.out.grow x)
        clear HCW
        generalize W.grow x = WX at HCX ⊢
        by_cases hFA : F = A
        · have dq : (F != A) = false := by simpa using hFA
          have HFA := Lib.hid hFA
          clear hFA
          go_wp2_with fail
          go_loopg [23, 24] R.length (fun g av jv wi => ∃ (j : Nat) (bb : Bool), j ≤ R.length ∧ g = R.length - j ∧ jv = .int .i64 j ∧ av = .bool bb ∧ (bb = true ↔ ∃ i, i < j ∧ (kSp l (hr R i)).src = F) ∧ Chg (fun _ => False) w wi)
          case atStart => exact ⟨0, false, by omega, by omega, rfl, rfl, ⟨fun h => (by cases h), fun ⟨i, h, _⟩ => (by omega)⟩, HCX.out⟩
          case round =>
            obtain ⟨j, bb, hj, rfl, rfl, rfl, hbb, hci⟩ := hrel
            have HBB := Lib.hid hbb; have HCI := Lib.hid hci
            clear hbb hci
            by_cases hjm : j < R.length
            · have gj := HR.out.chg HCI.out (fun x => x) j hjm
              have ek : R[j] = hr R j := by unfold hr; rw [List.getD_eq_getElem?_getD, List.getElem?_eq_getElem hjm]; rfl
              rw [ek, Nat.zero_add] at gj
              have hokj := HCH.out.ok j hjm
              obtain ⟨kj, hkj⟩ : ∃ kj, hr R j = kj := ⟨_, rfl⟩
              rw [hkj] at gj hokj
              have HKJ := Lib.hid hkj; have HSJ := Lib.hid (stepV_ok hokj); have HKI3 := Lib.hid (hr_i64 (R := [kj]) (i := 0) hl20 hokj)
              clear ek hkj hokj
              go_wp2_with fail
              refine (step_any l a cap wr b off kj (HS.out.chg HCI.out (fun x => x)) HA.out (by omega) HKI3.out (valid_bounds HV.out)).mono ?_
              obtain ⟨G, hG⟩ : ∃ G, (kSp l kj).src = G := ⟨_, rfl⟩
              rw [HSJ.out, hG]
              have HG := Lib.hid hG
              clear hG
              rintro e w' ⟨rfl, x, rfl⟩
              have HCJ := Lib.hid (HCI.out.grow x)
              clear gj
              have HST : Hid (∀ bb' : Bool, bb' = (bb || decide (G = F)) → (bb' = true ↔ ∃ i, i < j + 1 ∧ (kSp l (hr R i)).src = F)) := Lib.hid (fun bb' h => by
                subst h
                rw [Bool.or_eq_true, HBB.out, decide_eq_true_eq]
                constructor
                · rintro (⟨i, h1, h2⟩ | h)
                  · exact ⟨i, by omega, h2⟩
                  · exact ⟨j, by omega, by rw [HKJ.out, HG.out, h]⟩
                · rintro ⟨i, h1, h2⟩
                  rcases Nat.lt_succ_iff_lt_or_eq.1 h1 with h' | rfl
                  · exact .inl ⟨i, h', h2⟩
                  · exact .inr (by rw [← h2, HKJ.out, HG.out]))
              clear HBB
              cases bb with
              | true =>
                go_wp2_with fail
                go_roundg (R.length - (j + 1))
                case measure => omega
                case rel => exact ⟨j + 1, true, by omega, rfl, by go_num, rfl, HST.out true (by simp), HCJ.out⟩
              | false =>
                by_cases hGF : G = F
                · have dg : (G == F) = true := by simpa using hGF
                  have HGF := Lib.hid hGF
                  clear hGF
                  go_wp2_with fail
                  go_roundg (R.length - (j + 1))
                  case measure => omega
                  case rel => exact ⟨j + 1, true, by omega, rfl, by go_num, rfl, HST.out true (by simp [HGF.out]), HCJ.out⟩
                · have dg : (G == F) = false := by simpa using hGF
                  have HGF := Lib.hid hGF
                  clear hGF
                  go_wp2_with fail
                  go_roundg (R.length - (j + 1))
                  case measure => omega
                  case rel => exact ⟨j + 1, false, by omega, rfl, by go_num, rfl, HST.out false (by simp [HGF.out]), HCJ.out⟩
            · obtain rfl : R.length = j := by omega
              clear HCX
              have HCX := HCI
              cases bb with
              | true =>
                have HNOT := Lib.hid (show ¬ stepOk l R k from fun h => by
                  obtain ⟨i, h1, h2⟩ := HBB.out.1 rfl
                  exact h.2.2.1 i h1 (by rw [h2, HF.out]))
                go_wp2_with fail
                go_roundg ((l.length : Int) + 1 - (k + 1)).toNat
                case measure => omega
                case rel => exact ⟨k + 1, by omega, by omega, rfl, by go_num, none_next HNO.out (cand_skip HNOT.out), HCX.out⟩
              | false =>
                have HOKK := Lib.hid (show stepOk l R k from ⟨HOK.out, fun h => by rw [h] at h1; simp at h1, fun i hi h => (by
                  have := HBB.out.2 ⟨i, hi, by rw [h, HF.out]⟩
                  cases this), fun _ => by rw [HKL.out, HAT.out, HF.out, HFA.out]⟩)
                have HCW := HCI
                obtain ⟨W, rfl⟩ : ∃ W : World, W = wr := ⟨_, rfl⟩
                have hbl2 : br < W.heap.size := World.cell_lt (HCW.out.cell_some HRL.out (fun x => x))
                have HNEW : Hid (∀ j u, [Value.int .i64 k][j]? = some u → (W.alloc (Obj.cells #[.int .i64 k] 3)).cell? ((⟨W.heap.size, 0, none⟩ : Addr).add j) = some u) := Lib.hid (fun j u hu => by
                  rw [add_plain, Nat.zero_add]
                  exact (Blk.new W #[.int .i64 k] 3).cell_some hu)
                have HOLD : Hid (∀ j u, (R.map (Value.int .i64))[j]? = some u → (W.alloc (Obj.cells #[.int .i64 k] 3)).cell? ((⟨br, 0, none⟩ : Addr).add j) = some u) := Lib.hid (fun j u hu => by
                  rw [add_plain]
                  simp at hu
                  obtain ⟨x, hx, rfl⟩ := hu
                  obtain ⟨hj, rfl⟩ := List.getElem?_eq_some_iff.1 hx
                  exact ((HR.out.chg (HCW.out.alloc _) (fun x => x)) j hj))
                obtain ⟨r1, hr1⟩ : ∃ r1, ringSearch T l m (R ++ [k]) = r1 := ⟨_, rfl⟩
                have hik := HI.out k
                rw [hr1] at hik
                have HIK := Lib.hid hik; have HR1 := Lib.hid hr1
                clear hik hr1
                go_wp2_with (at_builtin; refine wpList_append_grows _ rfl (.tmp 132) (.tmp 134) 25 rfl 3 i0 (.int .i64 0) 1 8 Try.underlying25 HI0.out HZ0.out HZ1.out HZ2.out rfl (by decide) (some ⟨br, 0, none⟩) R.length R.length (R.map (Value.int .i64)) rfl (by intro h; cases h) (by simp) (fun b hb j u hu => by cases hb; exact HOLD.out j u hu) ⟨W.heap.size, 0, none⟩ 1 1 [.int .i64 k] rfl rfl HNEW.out (by intro u hu; simp at hu; subst hu; rfl) (by omega) (by simp [maxLen]; omega) (by omega) ?_; intro v1 w1 hown1 hgrow1; have HOWN1 := Lib.hid hown1; have HGROW1 := Lib.hid hgrow1; clear hown1 hgrow1)
                have hown1 := HOWN1.out
                have hc3 : Chg (fun _ => False) w w1 := (HCW.out.alloc _).trans (Chg.of_grown HGROW1.out) (fun _ x => x.elim)
                obtain ⟨g, c1, rfl, hg1, hg2, hI3, hgc⟩ := owns_ints (X := (R ++ [k])) (by rw [List.map_append]; exact hown1) (by simp)
                have HC3 := Lib.hid hc3; have HI3 := Lib.hid hI3
                clear hc3 hI3 hown1 HOWN1 HGROW1 HNEW
                go_at_call 48
                refine (HIK.out g c1 w1 HOKK.out (HS.out.chg HC3.out (fun x => x)) HI3.out hgc).mono ?_
                rintro e w' ⟨hc4, he⟩
                have HC4 := Lib.hid (HC3.out.trans hc4 (fun _ x => x.elim))
                clear hc4
                cases r1 with
                | none =>
                  have he' : e = .returned (.slice none 0 0) := he
                  subst he'
                  try clear he
                  go_wp2_with fail
                  go_roundg ((l.length : Int) + 1 - (k + 1)).toNat
                  case measure => omega
                  case rel => exact ⟨k + 1, by omega, by omega, rfl, by go_num, none_next HNO.out ((cand_go HOKK.out).trans HR1.out), HC4.out⟩
                | some X =>
                  obtain ⟨g2, c2, he', hI4⟩ : ∃ g c, e = .returned (.slice (some ⟨g, 0, none⟩) X.length c) ∧ IntsAt w' g 0 X := he
                  subst he'
                  have HI4 := Lib.hid hI4
                  clear hI4
                  try clear he
                  go_wp2_with fail
                  go_ret
                  have hr0 : r0 = some X := by
                    rw [← HR0.out]
                    exact search_some HNO.out hk1 hkl ((cand_go HOKK.out).trans HR1.out)
                  subst hr0
                  exact ⟨HC4.out, g2, c2, rfl, HI4.out⟩
        · have dq : (F != A) = true := by simpa using hFA
          have HNOT := Lib.hid (show ¬ stepOk l R k from fun h => hFA (by have := h.2.2.2 h1; rw [HKL.out, HAT.out, HF.out] at this; exact this.symm))
          clear hFA
          go_wp2_with fail
          go_roundg ((l.length : Int) + 1 - (k + 1)).toNat
          case measure => omega
          case rel => exact ⟨k + 1, by omega, by omega, rfl, by go_num, none_next HNO.out (cand_skip HNOT.out), HCX.out⟩
    · have dk : decide (k ≤ (l.length : Int)) = false := by rw [decide_eq_false_iff_not]; exact hkl
      have hr0 : r0 = none := by
        rw [← HR0.out]
        exact search_none fun k' h1 h2 => HNO.out k' h1 (by omega)
      subst hr0
      clear hkl
      go_wp2_with fail
      go_ret
      exact ⟨HCG.out, rfl⟩

set_option maxRecDepth 100000 in
set_option maxHeartbeats 4000000 in
theorem rring_top (T N : Nat) (l : List Sp) (hv : Valid T N l) (b off L : Nat) (a : Option Addr) (cap : Nat) (ha : l = [] ∨ a = some ⟨b, off, none⟩) (m : Nat) (w : World)
    (hs : SpansAt w b off l) (hL : 1 ≤ L)
    (ih : ∀ (k : Int) (g c : Nat) (w' : World), stepOk l [] k → SpansAt w' b off l → IntsAt w' g 0 [k] → [k].length ≤ c →
      Calls Try.prog 48 #[.int .i64 T, .slice a l.length cap, .int .i64 L, .slice (some ⟨g, 0, none⟩) [k].length c] w' (RefPost (ringSearch T l m [k]) w')) :
    Calls Try.prog 48 #[.int .i64 T, .slice a l.length cap, .int .i64 L, .slice none 0 0] w (RefPost (ringSearch T l (m + 1) []) w) := by
  obtain ⟨i0, hi0, hz0, hz1, hz2⟩ := info_parts info3
  have hneq : ∀ (w : World) (a : Option Addr) (n c n' c' : Nat), (binOp .neq 25 (.slice a n c) (.slice none n' c')).run Try.prog w = .ok (.bool (!a.isNone)) w := fun w a n c n' c' => run_neq_slice_nil_any w 25 3 a n c n' c' Try.underlying25
  have hl20 := hv.len
  obtain ⟨r0, hr0⟩ : ∃ r0, ringSearch T l (m + 1) [] = r0 := ⟨_, rfl⟩
  rw [hr0]
  have dlen : ((0 : Int) == (L : Int)) = false := by rw [beq_eq_false_iff_ne]; omega
  have HV := Lib.hid hv; have HA := Lib.hid ha; have HS := Lib.hid hs; have HI := Lib.hid ih; have HR0 := Lib.hid hr0
  have HI0 := Lib.hid hi0; have HZ0 := Lib.hid hz0; have HZ1 := Lib.hid hz1; have HZ2 := Lib.hid hz2
  clear hv ha hs ih hr0 hi0 hz0 hz1 hz2
  go_enter Try.func48, Try.ntmps48
  go_wp2
  go_loopg [12] (2 * l.length + 1) (fun g kv wr => ∃ k : Int, -(l.length : Int) ≤ k ∧ k ≤ l.length + 1 ∧ g = (l.length + 1 - k).toNat ∧ kv = .int .i64 k ∧
    (∀ k' : Int, -(l.length : Int) ≤ k' → k' < k → cand T l m [] k' = none) ∧ Chg (fun _ => False) w wr)
  case atStart => exact ⟨-(l.length : Int), by omega, by omega, by omega, rfl, fun k' h1 h2 => by omega, Chg.refl _ w⟩
  case round =>
    obtain ⟨k, hk1, hk2, rfl, rfl, hno, hcg⟩ := hrel
    have HNO := Lib.hid hno; have HCG := Lib.hid hcg
    clear hno hcg
    have HCX := HCG
    by_cases hkl : k ≤ l.length
    · have dk : decide (k ≤ (l.length : Int)) = true := by simpa using hkl
      by_cases hk0 : k = 0
      · have HNOT := Lib.hid (show ¬ stepOk l [] k from fun h => h.1.1 hk0)
        have dk0 : (k == 0) = true := by simpa using hk0
        clear hk0
        go_wp2_with fail
        go_roundg ((l.length : Int) + 1 - (k + 1)).toNat
        case measure => omega
        case rel => exact ⟨k + 1, by omega, by omega, rfl, by go_num, none_next HNO.out (cand_skip HNOT.out), HCX.out⟩
      · have dk0 : (k == 0) = false := by simpa using hk0
        by_cases hkn : k < 0
        · have HNOT := Lib.hid (show ¬ stepOk l [] k from fun h => by have := h.2.1 rfl; omega)
          have dkn : decide (k < 0) = true := by simpa using hkn
          clear hk0 hkn
          go_wp2_with fail
          go_roundg ((l.length : Int) + 1 - (k + 1)).toNat
          case measure => omega
          case rel => exact ⟨k + 1, by omega, by omega, rfl, by go_num, none_next HNO.out (cand_skip HNOT.out), HCX.out⟩
        · have dkn : decide (k < 0) = false := by simpa using hkn
          have HOKK := Lib.hid (show stepOk l [] k from ⟨⟨hk0, hk1, hkl⟩, fun _ => by omega, fun i hi => by simp at hi, fun hi => by simp at hi⟩)
          clear hk0
          have HCW := HCG
          obtain ⟨W, rfl⟩ : ∃ W : World, W = wr := ⟨_, rfl⟩
          clear hkn
          have HNEW : Hid (∀ j u, [Value.int .i64 k][j]? = some u → (W.alloc (Obj.cells #[.int .i64 k] 3)).cell? ((⟨W.heap.size, 0, none⟩ : Addr).add j) = some u) := Lib.hid (fun j u hu => by
            rw [add_plain, Nat.zero_add]
            exact (Blk.new W #[.int .i64 k] 3).cell_some hu)
          obtain ⟨r1, hr1⟩ : ∃ r1, ringSearch T l m [k] = r1 := ⟨_, rfl⟩
          have hik := HI.out k
          rw [hr1] at hik
          have HIK := Lib.hid hik; have HR1 := Lib.hid hr1
          clear hik hr1
          go_wp2_with (at_builtin; refine wpList_append_grows _ rfl (.tmp 132) (.tmp 134) 25 rfl 3 i0 (.int .i64 0) 1 8 Try.underlying25 HI0.out HZ0.out HZ1.out HZ2.out rfl (by decide) none 0 0 [] rfl (fun _ => ⟨rfl, rfl⟩) rfl (fun b hb j u hu => by cases hb) ⟨W.heap.size, 0, none⟩ 1 1 [.int .i64 k] rfl rfl HNEW.out (by intro u hu; simp at hu; subst hu; rfl) (by omega) (by simp [maxLen]) (by omega) ?_; intro v1 w1 hown1 hgrow1; have HOWN1 := Lib.hid hown1; have HGROW1 := Lib.hid hgrow1; clear hown1 hgrow1)
          have hown1 := HOWN1.out
          have hc3 : Chg (fun _ => False) w w1 := (HCW.out.alloc _).trans (Chg.of_grown HGROW1.out) (fun _ x => x.elim)
          obtain ⟨g, c1, rfl, hg1, hg2, hI3, hgc⟩ := owns_ints (X := [k]) hown1 (by simp)
          have HC3 := Lib.hid hc3; have HI3 := Lib.hid hI3
          clear hc3 hI3 hown1 HOWN1 HGROW1 HNEW
          go_at_call 48
          refine (HIK.out g c1 w1 HOKK.out (HS.out.chg HC3.out (fun x => x)) HI3.out hgc).mono ?_
          rintro e w' ⟨hc4, he⟩
          have HC4 := Lib.hid (HC3.out.trans hc4 (fun _ x => x.elim))
          clear hc4
          cases r1 with
          | none =>
            have he' : e = .returned (.slice none 0 0) := he
            subst he'
            try clear he
            go_wp2_with fail
            go_roundg ((l.length : Int) + 1 - (k + 1)).toNat
            case measure => omega
            case rel => exact ⟨k + 1, by omega, by omega, rfl, by go_num, none_next HNO.out ((cand_go HOKK.out).trans HR1.out), HC4.out⟩
          | some X =>
            obtain ⟨g2, c2, he', hI4⟩ : ∃ g c, e = .returned (.slice (some ⟨g, 0, none⟩) X.length c) ∧ IntsAt w' g 0 X := he
            subst he'
            have HI4 := Lib.hid hI4
            clear hI4
            try clear he
            go_wp2_with fail
            go_ret
            have hr0 : r0 = some X := by
              rw [← HR0.out]
              exact search_some HNO.out hk1 hkl ((cand_go HOKK.out).trans HR1.out)
            subst hr0
            exact ⟨HC4.out, g2, c2, rfl, HI4.out⟩
    · have dk : decide (k ≤ (l.length : Int)) = false := by rw [decide_eq_false_iff_not]; exact hkl
      have hr0 : r0 = none := by
        rw [← HR0.out]
        exact search_none fun k' h1 h2 => HNO.out k' h1 (by omega)
      subst hr0
      clear hkl
      go_wp2_with fail
      go_ret
      exact ⟨HCG.out, rfl⟩
end Go.Proofs.Ytgamekcjjpjnnaa
