/- The reference's IsRing, walked: is a list of steps a ring, and what are its sums? Its conditions are its premises. -/
import Derived.Test.YtgamekcjjpjnnaaA17
set_option linter.unusedVariables false
namespace Go.Proofs.Ytgamekcjjpjnnaa
open Go.RowKit

def srcs (l : List Sp) (R : List Int) (m : Nat) : List Int := (List.range m).map fun i => (kSp l (hr R i)).src
theorem srcs_succ {l : List Sp} {R : List Int} {m : Nat} : srcs l R (m + 1) = srcs l R m ++ [(kSp l (hr R m)).src] := by simp [srcs, List.range_succ]
def atV (l : List Sp) (R : List Int) : Nat → Int
  | 0 => 0
  | m + 1 => (kSp l (hr R m)).dst
def begV (l : List Sp) (R : List Int) : Nat → Int
  | 0 => 0
  | _ + 1 => (kSp l (hr R 0)).src

/-- What IsRing answers. -/
def IsRingPost (N : Nat) (l : List Sp) (R : List Int) (w : World) (e : Ending) (w' : World) : Prop :=
  ∃ x y b, e = .returned (.tuple #[.int .i64 x, .int .i64 y, .bool b]) ∧ (b = true ↔ isRing N l R) ∧ (b = true → x = sumLo l R R.length ∧ y = sumHi l R R.length) ∧ Chg (fun _ => False) w w'

theorem stepV_ok {l : List Sp} {k : Int} (h : kOk l k) : stepV l k = .tuple #[.int .i64 (kSp l k).src, .int .i64 (kSp l k).dst, .int .i64 (kSp l k).lo, .int .i64 (kSp l k).hi, .bool true] := if_pos h
theorem stepV_no {l : List Sp} {k : Int} (h : ¬ kOk l k) : stepV l k = .tuple #[.int .i64 0, .int .i64 0, .int .i64 0, .int .i64 0, .bool false] := if_neg h

theorem valid_bounds {T N : Int} {l : List Sp} (hv : Valid T N l) : ∀ s ∈ l, -1000 ≤ s.lo ∧ s.lo ≤ 1000 ∧ -1000 ≤ s.hi ∧ s.hi ≤ 1000 := fun s hs => by
  have := hv.ok s hs
  have := hv.t2
  omega

set_option maxRecDepth 100000 in
set_option maxHeartbeats 2000000 in
theorem IsRing_any (T N : Nat) (l : List Sp) (a ar : Option Addr) (cap cr : Nat) (w : World) (b off br or_ : Nat) (R : List Int) (hs : SpansAt w b off l) (ha : l = [] ∨ a = some ⟨b, off, none⟩) (hv : Valid T N l)
    (hR : IntsAt w br or_ R) (har : R = [] ∨ ar = some ⟨br, or_, none⟩) (hI : ∀ x ∈ R, I64 x) :
    Calls Try.prog 38 #[.slice a l.length cap, .slice ar R.length cr] w (IsRingPost N l R w) := by
  obtain ⟨i0, hi0, hz0, hz1, hz2⟩ := info_parts info3
  have hn2 := hv.n2
  by_cases h2 : R.length < 2
  · have d1 : decide ((R.length : Int) < 2) = true := by simp; omega
    have hno := Lib.hid (show ¬ isRing N l R from fun h => by have := h.1; omega)
    clear hi0 hz0 hz1 hz2 hs ha hv hR har hI
    go_enter Try.func38, Try.ntmps38
    go_wp2
    go_ret3
    exact ⟨0, 0, false, rfl, ⟨fun h => (by cases h), fun h => absurd h hno.out⟩, fun h => (by cases h), Chg.refl _ w⟩
  · have d1 : decide ((R.length : Int) < 2) = false := by simp; omega
    by_cases h3 : 6 < R.length
    · have d2 : decide (6 < (R.length : Int)) = true := by simp; omega
      have hno := Lib.hid (show ¬ isRing N l R from fun h => by have := h.2.1; omega)
      clear hi0 hz0 hz1 hz2 hs ha hv hR har hI
      go_enter Try.func38, Try.ntmps38
      go_wp2
      go_ret3
      exact ⟨0, 0, false, rfl, ⟨fun h => (by cases h), fun h => absurd h hno.out⟩, fun h => (by cases h), Chg.refl _ w⟩
    · have d2 : decide (6 < (R.length : Int)) = false := by simp; omega
      have hne2 : ar = some ⟨br, or_, none⟩ := har.resolve_left (by intro h; simp [h] at h2)
      subst hne2
      have HS := Lib.hid hs; have HA := Lib.hid ha; have HV := Lib.hid hv; have HR := Lib.hid hR; have HII := Lib.hid hI; have HI0 := Lib.hid hi0; have HZ0 := Lib.hid hz0; have HZ1 := Lib.hid hz1; have HZ2 := Lib.hid hz2
      clear hi0 hz0 hz1 hz2 hs ha hv hR har hI
      go_enter Try.func38, Try.ntmps38
      go_wp2
      go_loopg [7, 8, 9, 10, 11, 12] R.length (fun g lo hi mv at1 bg i wr => ∃ m, m ≤ R.length ∧ g = R.length - m ∧ i = .int .i64 (m : Nat) ∧ lo = .int .i64 (sumLo l R m) ∧ hi = .int .i64 (sumHi l R m) ∧ wr.ownsRow w.heap.size 3 1 mv m ((srcs l R m).map (Value.int .i64)) ∧ at1 = .int .i64 (atV l R m) ∧ bg = .int .i64 (begV l R m) ∧ Chain l R m ∧ Chg (fun _ => False) w wr)
      case atStart => exact ⟨0, by omega, by omega, rfl, rfl, rfl, World.ownsRow_nil _ _ _ _, rfl, rfl, Chain.zero, Chg.refl _ w⟩
      case round =>
        obtain ⟨m, hm, rfl, rfl, rfl, rfl, hown, rfl, rfl, hch, hcg⟩ := hrel
        by_cases hmR : m < R.length
        · have gk := HR.out.chg hcg (fun x => x) m hmR
          have ek : R[m] = hr R m := by unfold hr; rw [List.getD_eq_getElem?_getD, List.getElem?_eq_getElem hmR]; rfl
          have hki := HII.out R[m] (List.getElem_mem hmR)
          rw [ek] at gk hki
          clear ek
          obtain ⟨k, hk⟩ : ∃ k, hr R m = k := ⟨_, rfl⟩
          rw [hk] at gk hki
          have HK := Lib.hid hk; have HOWN := Lib.hid hown; have HCH := Lib.hid hch; have HCG := Lib.hid hcg; have HKI := Lib.hid hki
          have hsb := sum_bounds HV.out hch.ok
          obtain ⟨lo, hlo⟩ : ∃ lo, sumLo l R m = lo := ⟨_, rfl⟩
          obtain ⟨hi, hhi⟩ : ∃ hi, sumHi l R m = hi := ⟨_, rfl⟩
          obtain ⟨A, hA⟩ : ∃ A, atV l R m = A := ⟨_, rfl⟩
          obtain ⟨B, hB⟩ : ∃ B, begV l R m = B := ⟨_, rfl⟩
          rw [hlo, hhi] at hsb ⊢
          rw [hA, hB]
          have HLO := Lib.hid hlo; have HHI := Lib.hid hhi; have HAT := Lib.hid hA; have HBG := Lib.hid hB
          clear hk hown hch hcg hki hlo hhi hA hB
          go_wp2_with fail
          refine (step_any l a cap wr b off k (HS.out.chg HCG.out (fun x => x)) HA.out (by have := HV.out.len; omega) HKI.out (valid_bounds HV.out)).mono ?_
          by_cases hok : kOk l k
          · have hb := kSp_ok HV.out hok
            rw [stepV_ok hok]
            obtain ⟨F, hF⟩ : ∃ F, (kSp l k).src = F := ⟨_, rfl⟩
            obtain ⟨D, hD⟩ : ∃ D, (kSp l k).dst = D := ⟨_, rfl⟩
            obtain ⟨x1, hx1⟩ : ∃ x1, (kSp l k).lo = x1 := ⟨_, rfl⟩
            obtain ⟨x2, hx2⟩ : ∃ x2, (kSp l k).hi = x2 := ⟨_, rfl⟩
            rw [hF, hD, hx1, hx2] at hb ⊢
            have hxb : -700 ≤ x1 ∧ x1 ≤ 700 ∧ -700 ≤ x2 ∧ x2 ≤ 700 := by omega
            have HOK := Lib.hid hok; have HF := Lib.hid hF; have HD := Lib.hid hD; have HX1 := Lib.hid hx1; have HX2 := Lib.hid hx2
            clear hok hF hD hx1 hx2 hb
            rintro e w' ⟨rfl, x, rfl⟩
            have hcw : Chg (fun _ => False) w (wr.grow x) := HCG.out.grow x
            have how := owns_chg HOWN.out (grow_chg wr x)
            obtain ⟨ao, c, rfl, hform⟩ := owns_form how
            have HFM := Lib.hid hform; have HCW := Lib.hid hcw; have HOW := Lib.hid how
            clear hform hcw how gk
            generalize wr.grow x = W at HFM HCW HOW ⊢
            by_cases hm0 : m = 0
            · have dm : decide (0 < m) = false := by simp [hm0]
              have de : ((m : Int) == 0) = true := by simp [hm0]
              have HNX := Lib.hid (show 0 < m → (kSp l (hr R (m - 1))).dst = (kSp l k).src from fun h => by omega)
              have HM0 := Lib.hid hm0
              have HK0 := Lib.hid (show hr R 0 = k from by rw [← hm0]; exact HK.out)
              clear hm0
              go_wp2_with fail
              have hW := Lib.hid (HFM.out)
              go_loop [18] (fun i => ∃ j : Nat, i = .int .i64 j ∧ j ≤ m ∧ ∀ q, q < j → (kSp l (hr R q)).src ≠ F) (fun i => m - (intOf i).toNat)
              case atStart => exact ⟨0, rfl, by omega, fun q hq => by omega⟩
              case round =>
                obtain ⟨j, rfl, hj, hne⟩ := hrel
                have HNE := Lib.hid hne; clear hne
                by_cases hjm : j < m
                · obtain ⟨g, rfl, hg1, hg2, hcells⟩ := HFM.out (by omega)
                  have q0 := hcells j (.int .i64 (kSp l (hr R j)).src) (by simp [srcs, hjm])
                  obtain ⟨G, hG⟩ : ∃ G, (kSp l (hr R j)).src = G := ⟨_, rfl⟩
                  rw [hG] at q0
                  have HG := Lib.hid hG; clear hG hcells
                  by_cases hGF : G = F
                  · have dq : (G == F) = true := by simpa using hGF
                    have hno := Lib.hid (show ¬ isRing N l R from fun h => h.2.2.1.new j m hjm (by omega) (by rw [HG.out, HK.out, HF.out]; exact hGF))
                    clear hGF
                    go_wp2_with fail
                    go_ret3
                    exact ⟨0, 0, false, rfl, ⟨fun h => (by cases h), fun h => absurd h hno.out⟩, fun h => (by cases h), HCW.out⟩
                  · have dq : (G == F) = false := by simpa using hGF
                    have HGF := Lib.hid hGF; clear hGF
                    go_wp2_with fail
                    go_round
                    case rel => exact ⟨j + 1, by go_num, by omega, fun q hq => by
                      rcases Nat.lt_succ_iff_lt_or_eq.1 hq with h' | rfl
                      · exact HNE.out q h'
                      · rw [HG.out]; exact HGF.out⟩
                    case measure => simp [intOf]; omega
                · obtain rfl : m = j := by omega
                  have HNM := HNE
                  clear hjm
                  have HNEW : Hid (∀ j u, [Value.int .i64 F][j]? = some u → (W.alloc (Obj.cells #[.int .i64 F] 3)).cell? ((⟨W.heap.size, 0, none⟩ : Addr).add j) = some u) := Lib.hid (fun j u hu => by
                    rw [add_plain, Nat.zero_add]
                    exact (Blk.new W #[.int .i64 F] 3).cell_some hu)
                  have hsz5 : w.heap.size ≤ W.heap.size := HCW.out.size
                  have hml : (m + 1) * 8 ≤ 140737488355328 := by omega
                  have hmm : m + 1 ≤ maxLen := by simp [maxLen]; omega
                  go_wp2_with (at_builtin; refine wpList_append_own _ rfl (.tmp 71) (.tmp 73) 25 rfl w.heap.size 3 i0 (.int .i64 0) 1 8 Try.underlying25 HI0.out HZ0.out HZ1.out HZ2.out rfl (by decide) _ m ((srcs l R m).map (Value.int .i64)) rfl (HOW.out.alloc _) ⟨W.heap.size, 0, none⟩ 1 1 [.int .i64 F] rfl rfl HNEW.out (by intro u hu; simp at hu; subst hu; rfl) hmm hml (by simp; omega) ?_; intro v1 w1 hown1 hgrow1 _; have HOWN1 := Lib.hid hown1; have HGROW1 := Lib.hid hgrow1; clear hown1 hgrow1)
                  go_roundg (R.length - (m + 1))
                  case measure => omega
                  case rel =>
                    refine ⟨m + 1, by omega, rfl, by go_num, ?_, ?_, ?_, ?_, ?_, ?_, ?_⟩
                    · rw [sumLo, HK.out, HLO.out, HX1.out]
                    · rw [sumHi, HK.out, HHI.out, HX2.out]
                    · rw [srcs_succ, List.map_append, HK.out, HF.out]; exact HOWN1.out
                    · rw [atV, HK.out, HD.out]
                    · rw [begV, HK0.out, HF.out]
                    · refine HCH.out.step (by rw [HK.out]; exact HOK.out) (fun i hi h => ?_) (fun h => ?_)
                      · exact HNM.out i hi (by rw [h, HK.out, HF.out])
                      · rw [HK.out]; exact HNX.out h
                    · exact (HCW.out.alloc _).trans (Chg.of_grownRow HGROW1.out) (fun kk hk => .inr ((HOW.out.lt kk hk.symm).1))
            · have dm : decide (0 < m) = true := by simp; omega
              have de : ((m : Int) == 0) = false := by simp; omega
              have HAV := Lib.hid (show A = (kSp l (hr R (m - 1))).dst from by rw [← HAT.out]; obtain ⟨m', rfl⟩ : ∃ m', m = m' + 1 := ⟨m - 1, by omega⟩; rfl)
              have HBV := Lib.hid (show begV l R (m + 1) = B from by rw [← HBG.out]; obtain ⟨m', rfl⟩ : ∃ m', m = m' + 1 := ⟨m - 1, by omega⟩; rfl)
              by_cases hFA : F = A
              · have dq : (F != A) = false := by simpa using hFA
                have HNX := Lib.hid (show 0 < m → (kSp l (hr R (m - 1))).dst = (kSp l k).src from fun h => by rw [← HAV.out, HF.out, hFA])
                clear hFA hm0
                go_wp2_with fail
                have hW := Lib.hid (HFM.out)
                go_loop [18] (fun i => ∃ j : Nat, i = .int .i64 j ∧ j ≤ m ∧ ∀ q, q < j → (kSp l (hr R q)).src ≠ F) (fun i => m - (intOf i).toNat)
                case atStart => exact ⟨0, rfl, by omega, fun q hq => by omega⟩
                case round =>
                  obtain ⟨j, rfl, hj, hne⟩ := hrel
                  have HNE := Lib.hid hne; clear hne
                  by_cases hjm : j < m
                  · obtain ⟨g, rfl, hg1, hg2, hcells⟩ := HFM.out (by omega)
                    have q0 := hcells j (.int .i64 (kSp l (hr R j)).src) (by simp [srcs, hjm])
                    obtain ⟨G, hG⟩ : ∃ G, (kSp l (hr R j)).src = G := ⟨_, rfl⟩
                    rw [hG] at q0
                    have HG := Lib.hid hG; clear hG hcells
                    by_cases hGF : G = F
                    · have dq : (G == F) = true := by simpa using hGF
                      have hno := Lib.hid (show ¬ isRing N l R from fun h => h.2.2.1.new j m hjm (by omega) (by rw [HG.out, HK.out, HF.out]; exact hGF))
                      clear hGF
                      go_wp2_with fail
                      go_ret3
                      exact ⟨0, 0, false, rfl, ⟨fun h => (by cases h), fun h => absurd h hno.out⟩, fun h => (by cases h), HCW.out⟩
                    · have dq : (G == F) = false := by simpa using hGF
                      have HGF := Lib.hid hGF; clear hGF
                      go_wp2_with fail
                      go_round
                      case rel => exact ⟨j + 1, by go_num, by omega, fun q hq => by
                        rcases Nat.lt_succ_iff_lt_or_eq.1 hq with h' | rfl
                        · exact HNE.out q h'
                        · rw [HG.out]; exact HGF.out⟩
                      case measure => simp [intOf]; omega
                  · obtain rfl : m = j := by omega
                    have HNM := HNE
                    clear hjm
                    have HNEW : Hid (∀ j u, [Value.int .i64 F][j]? = some u → (W.alloc (Obj.cells #[.int .i64 F] 3)).cell? ((⟨W.heap.size, 0, none⟩ : Addr).add j) = some u) := Lib.hid (fun j u hu => by
                      rw [add_plain, Nat.zero_add]
                      exact (Blk.new W #[.int .i64 F] 3).cell_some hu)
                    have hsz5 : w.heap.size ≤ W.heap.size := HCW.out.size
                    have hml : (m + 1) * 8 ≤ 140737488355328 := by omega
                    have hmm : m + 1 ≤ maxLen := by simp [maxLen]; omega
                    go_wp2_with (at_builtin; refine wpList_append_own _ rfl (.tmp 71) (.tmp 73) 25 rfl w.heap.size 3 i0 (.int .i64 0) 1 8 Try.underlying25 HI0.out HZ0.out HZ1.out HZ2.out rfl (by decide) _ m ((srcs l R m).map (Value.int .i64)) rfl (HOW.out.alloc _) ⟨W.heap.size, 0, none⟩ 1 1 [.int .i64 F] rfl rfl HNEW.out (by intro u hu; simp at hu; subst hu; rfl) hmm hml (by simp; omega) ?_; intro v1 w1 hown1 hgrow1 _; have HOWN1 := Lib.hid hown1; have HGROW1 := Lib.hid hgrow1; clear hown1 hgrow1)
                    go_roundg (R.length - (m + 1))
                    case measure => omega
                    case rel =>
                      refine ⟨m + 1, by omega, rfl, by go_num, ?_, ?_, ?_, ?_, ?_, ?_, ?_⟩
                      · rw [sumLo, HK.out, HLO.out, HX1.out]
                      · rw [sumHi, HK.out, HHI.out, HX2.out]
                      · rw [srcs_succ, List.map_append, HK.out, HF.out]; exact HOWN1.out
                      · rw [atV, HK.out, HD.out]
                      · rw [HBV.out]
                      · refine HCH.out.step (by rw [HK.out]; exact HOK.out) (fun i hi h => ?_) (fun h => ?_)
                        · exact HNM.out i hi (by rw [h, HK.out, HF.out])
                        · rw [HK.out]; exact HNX.out h
                      · exact (HCW.out.alloc _).trans (Chg.of_grownRow HGROW1.out) (fun kk hk => .inr ((HOW.out.lt kk hk.symm).1))
              · have dq : (F != A) = true := by simpa using hFA
                have hno := Lib.hid (show ¬ isRing N l R from fun h => hFA (by have := h.2.2.1.next (m - 1) (by omega); rw [show m - 1 + 1 = m by omega, HK.out, HF.out, ← HAV.out] at this; exact this.symm))
                clear hFA hm0
                go_wp2_with fail
                go_ret3
                exact ⟨0, 0, false, rfl, ⟨fun h => (by cases h), fun h => absurd h hno.out⟩, fun h => (by cases h), HCW.out⟩
          · rw [stepV_no hok]
            have hno := Lib.hid (show ¬ isRing N l R from fun h => hok (by have := h.2.2.1.ok m hmR; rwa [HK.out] at this))
            clear hok
            rintro e w' ⟨rfl, x, rfl⟩
            have HCW := Lib.hid (HCG.out.grow x)
            clear gk
            go_wp2_with fail
            go_ret3
            exact ⟨0, 0, false, rfl, ⟨fun h => (by cases h), fun h => absurd h hno.out⟩, fun h => (by cases h), HCW.out⟩
        · obtain ⟨m', rfl⟩ : ∃ m', m = m' + 1 := ⟨m - 1, by omega⟩
          have hmL : R.length = m' + 1 := by omega
          have hbit : isRing N l R ↔ (kSp l (hr R 0)).src = (kSp l (hr R m')).dst := by
            have hfew := hch.few HV.out
            constructor
            · intro h
              have := h.2.2.2
              rwa [hmL, Nat.add_sub_cancel] at this
            · intro h
              refine ⟨by omega, by omega, by rw [hmL]; exact hch, ?_⟩
              rwa [hmL, Nat.add_sub_cancel]
          have dl : decide ((m' : Int) + 1 < (R.length : Int)) = false := by rw [decide_eq_false_iff_not]; omega
          have HBIT := Lib.hid hbit; have HCG := Lib.hid hcg; have HML := Lib.hid hmL
          obtain ⟨lo, hlo⟩ : ∃ lo, sumLo l R (m' + 1) = lo := ⟨_, rfl⟩
          obtain ⟨hi, hhi⟩ : ∃ hi, sumHi l R (m' + 1) = hi := ⟨_, rfl⟩
          obtain ⟨A, hA⟩ : ∃ A, atV l R (m' + 1) = A := ⟨_, rfl⟩
          obtain ⟨B, hB⟩ : ∃ B, begV l R (m' + 1) = B := ⟨_, rfl⟩
          rw [hlo, hhi, hA, hB]
          have HLO := Lib.hid hlo; have HHI := Lib.hid hhi; have HAT := Lib.hid hA; have HBG := Lib.hid hB
          clear hbit hcg hmL hch hown hlo hhi hA hB
          go_wp2_with fail
          go_ret3
          refine ⟨lo, hi, A == B, rfl, ?_, fun _ => ⟨by rw [HML.out]; exact HLO.out.symm, by rw [HML.out]; exact HHI.out.symm⟩, HCG.out⟩
          rw [HBIT.out, ← HAT.out, ← HBG.out, beq_iff_eq]
          exact ⟨fun h => h.symm, fun h => h.symm⟩
end Go.Proofs.Ytgamekcjjpjnnaa
