/- down, walked. Its conditions are its premises. -/
import Derived.Test.YtilacamhjibneaaDoorV41
set_option linter.unusedVariables false
namespace Go.Proofs.YtilacamhjibneaaDoor
open Go.RowKit

theorem gen_take (V : List (List Nat)) (y : Nat) (s : List Nat) {i : Nat} (h : i < s.length) : gen V (y + 1) (s.take (i + 1)) = gen V (y + 1) (s.take i) ++ gen V y (part V s[i]) := by
  rw [List.take_succ_eq_append_getElem h, gen_app]
  have : gen V (y + 1) [s[i]] = gen V y (part V s[i]) := by rw [gen_cons, gen_nil, List.append_nil]
  rw [this]
theorem gen_take_le (V : List (List Nat)) (y : Nat) (s : List Nat) (i : Nat) : (gen V y (s.take i)).length ≤ (gen V y s).length := by
  have : gen V y s = gen V y (s.take i) ++ gen V y (s.drop i) := by rw [← gen_app, List.take_append_drop]
  rw [this, List.length_append]
  omega
theorem tab_pos {V : List (List Nat)} (hV : WF V) {y c : Nat} (hc : c < V.length) : at0 (tab V (y + 1)) c = 0 → gen V y (part V c) = [] := fun h => by
  rw [tab_succ hc, lng_gen hV y _ (hV.part_le c).2] at h
  unfold M63 at h
  exact List.eq_nil_of_length_eq_zero (by omega)

set_option maxRecDepth 100000 in
set_option maxHeartbeats 1000000 in
theorem down_any (V : List (List Nat)) (hV : WF V) (w0 : World) (b off cap : Nat) (hv : VAt w0 b off V) (tb tc M Y : Nat) (htab : TabAt w0 tb 0 V Y) (hYM : Y < M) (hY : Y ≤ 1000) :
    ∀ (y : Nat), y ≤ Y → ∀ (s l : List Nat), (∀ c ∈ s, c < V.length) → s.length ≤ 1000 → l.length + (gen V y s).length ≤ 140737488355328 → ∀ (v : Value) (w : World), Chg (fun _ => False) w0 w → OutB w w0.heap.size v l →
    Calls Tryd.prog 75 #[.slice (some ⟨b, off, none⟩) V.length cap, .slice (some ⟨tb, 0, none⟩) M tc, .string (str s), .int .i64 (y : Int), v] w fun e w' => (∃ v', e = .returned v' ∧ OutB w' w0.heap.size v' (l ++ gen V y s)) ∧ Chg (fun _ => False) w0 w' := by
  have hn6 := hV.le
  intro y
  induction y with
  | zero =>
    intro _ s l hs hsl hlen v w hc ho
    have HO := Lib.hid ho; have HC := Lib.hid hc; have HS := Lib.hid hs
    have hlen2 : l.length + s.length ≤ 140737488355328 := hlen
    clear ho hc hs hlen hv htab
    go_enter Tryd.func75, Tryd.ntmps75
    go_wp2_with (at_builtin; refine wpList_append_out rfl (.tmp 15) (.tmp 16) rfl w0.heap.size v l s (by simp [Act.eval]) (by simp [Act.eval]) HO.out HC.out.size (fun c h => by have := HS.out c h; omega) hlen2 ?_)
    intro v' w' hout hc'
    have HOU := Lib.hid hout; have HC2 := Lib.hid (HC.out.trans hc' (fun k hk => .inr hk))
    clear hout hc'
    go_wp2_with fail
    go_ret
    exact ⟨⟨v', rfl, HOU.out⟩, HC2.out⟩
  | succ y ih =>
    intro hyY s l hs hsl hlen v w hc ho
    have HIH := Lib.hid (ih (by omega))
    have HO := Lib.hid ho; have HC := Lib.hid hc; have HS := Lib.hid hs; have HWF := Lib.hid hV; have HV := Lib.hid hv; have HTAB := Lib.hid htab
    obtain ⟨g1, c1, t1, t2⟩ := htab (y + 1) hyY
    rw [Nat.zero_add] at t1
    have HT1 := Lib.hid t1; have HT2 := Lib.hid t2
    have HTL := Lib.hid (tab_len V (y + 1))
    obtain ⟨z, hz⟩ : ∃ z, y + 1 = z := ⟨_, rfl⟩
    have HZ := Lib.hid hz
    have hz0 : ¬ (z : Int) = 0 := by omega
    have hz1 : (z : Int) - 1 = (y : Int) := by omega
    have hzM : (z : Int) < (M : Int) := by omega
    have hz1000 : z ≤ 1000 := by omega
    rw [hz] at hlen HT1 HT2 HTL ⊢
    have hsz := str_size s
    clear ih ho hc hs hv htab t1 t2 hz hyY hV
    go_enter Tryd.func75, Tryd.ntmps75
    go_wp2_with fail
    go_loopg [11, 4] s.length (fun gm iv ov wr => ∃ i : Nat, i ≤ s.length ∧ gm = s.length - i ∧ iv = .int .i64 i ∧ OutB wr w0.heap.size ov (l ++ gen V z (s.take i)) ∧ Chg (fun _ => False) w0 wr)
    case atStart => exact ⟨0, by omega, by omega, rfl, by rw [List.take_zero, gen_nil, List.append_nil]; exact HO.out, HC.out⟩
    case round =>
      clear HO HC
      obtain ⟨i, hi, rfl, rfl, ho, hc⟩ := hrel
      have HO := Lib.hid ho; have HC := Lib.hid hc
      clear ho hc
      generalize u4 = ov at HO ⊢
      by_cases hil : i < s.length
      · have d0 : decide (i < s.length) = true := by simpa using hil
        have hcn := HS.out _ (List.getElem_mem hil)
        have hidx := index_chr hil (by omega)
        have hu8 := u8_chr s[i] (by omega)
        have q1 := HC.out.cell_some HT1.out (fun x => x)
        have q2 := HC.out.cell_some (HT2.out s[i] (by rw [HTL.out]; exact hcn)) (fun x => x)
        have q3 := (HV.out.chg HC.out (fun x => x)) s[i] hcn
        rw [← part_lt hcn] at q3
        have HGT : Hid (gen V z (s.take (i + 1)) = gen V z (s.take i) ++ gen V y (part V s[i])) := Lib.hid (by rw [← HZ.out]; exact gen_take V y s hil)
        have HLE := Lib.hid (gen_take_le V z s (i + 1))
        have HPP := Lib.hid (HWF.out.part_le s[i])
        have HTP : Hid (at0 (tab V z) s[i] = 0 → gen V y (part V s[i]) = []) := Lib.hid (by rw [← HZ.out]; exact tab_pos HWF.out hcn)
        obtain ⟨p, hp⟩ : ∃ p, part V s[i] = p := ⟨_, rfl⟩
        rw [hp] at q3 HGT HPP HTP
        obtain ⟨d, hd⟩ : ∃ d, s[i] = d := ⟨_, rfl⟩
        rw [hd] at hcn hu8 q2 q3 HTP
        simp only [hd] at hidx
        obtain ⟨D, hD⟩ : ∃ D, 97 + d = D := ⟨_, rfl⟩
        rw [hD] at hu8
        simp only [hD] at hidx
        obtain ⟨x, hx⟩ : ∃ x, at0 (tab V z) d = x := ⟨_, rfl⟩
        rw [hx] at q2 HTP
        clear hp hd hD hx
        have hdi : (d : Int) < (V.length : Int) := by omega
        by_cases hx0 : x = 0
        · have HGN := Lib.hid (HTP.out hx0)
          rw [HGN.out, List.append_nil] at HGT
          subst hx0
          clear HTP
          go_wp2_with fail
          go_roundg (s.length - (i + 1))
          case measure => omega
          case rel => exact ⟨i + 1, by omega, rfl, by go_num, by rw [HGT.out]; exact HO.out, HC.out⟩
        · have hx1 : decide (0 < x) = true := by simp; omega
          have HLN := Lib.hid (show (l ++ gen V z (s.take i)).length + (gen V y p).length ≤ 140737488355328 by
            have h1 := HLE.out
            rw [HGT.out, List.length_append] at h1
            rw [List.length_append]
            omega)
          have HCA := Lib.hid (HIH.out p (l ++ gen V z (s.take i)) HPP.out.2 (by have := HPP.out.1; omega) HLN.out ov wr HC.out HO.out)
          clear HTP
          go_wp2_with fail
          refine HCA.out.mono ?_
          rintro e w2 ⟨⟨v', rfl, ho'⟩, hc'⟩
          have HO2 := Lib.hid ho'; have HC2 := Lib.hid hc'
          clear ho' hc'
          go_wp2_with fail
          go_roundg (s.length - (i + 1))
          case measure => omega
          case rel => exact ⟨i + 1, by omega, rfl, by go_num, by rw [HGT.out, ← List.append_assoc]; exact HO2.out, HC2.out⟩
      · obtain rfl : i = s.length := by omega
        rw [List.take_length] at HO
        go_wp2_with fail
        go_ret
        exact ⟨⟨ov, rfl, HO.out⟩, HC.out⟩
end Go.Proofs.YtilacamhjibneaaDoor
