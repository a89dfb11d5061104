/- The first letters of the endless shoot of a bud, walked. Its conditions are its premises. -/
import Derived.Test.YtilacamhjibneaaDoorV25
set_option linter.unusedVariables false
namespace Go.Proofs.YtilacamhjibneaaDoor
open Go.RowKit

/-- What is there after k rounds. -/
def bg (V : List (List Nat)) (i : Nat) : Nat → List Nat
  | 0 => part V i
  | k + 1 => bg V i k ++ part V (at0 (bg V i k) (k + 1))
theorem bg_lt {V : List (List Nat)} (hV : WF V) (i : Nat) : ∀ k, ∀ c ∈ bg V i k, c < V.length
  | 0 => (hV.part_le i).2
  | k + 1 => fun c hc => by
    rw [bg] at hc
    rcases List.mem_append.1 hc with hc | hc
    · exact bg_lt hV i k c hc
    · exact (hV.part_le _).2 c hc
theorem u8V_app (l m : List Nat) : u8V (l ++ m) = u8V l ++ u8V m := by simp [u8V]
theorem u8V_at {l : List Nat} {k : Nat} (h : k < l.length) : (u8V l)[k]? = some (.int .u8 ((97 + at0 l k : Nat) : Int)) := by
  unfold u8V at0
  rw [List.getElem?_map, List.getElem?_eq_getElem h]
  rfl
theorem at0_mem {l : List Nat} {k : Nat} (h : k < l.length) : at0 l k ∈ l := by
  rw [at0_lt_of h]
  exact List.getElem_mem h
/-- The rounds never lack a letter before there are so many. -/
def Fed (V : List (List Nat)) (i many : Nat) : Prop := ∀ k, (bg V i k).length < many → k + 1 < (bg V i k).length
theorem infoByte5 : (Tryd.prog.info? 5).map (fun i => (i.zero, i.size, i.bytes)) = some (some (.int .u8 0), 1, 1) := by kernel_rfl

set_option maxRecDepth 100000 in
set_option maxHeartbeats 1000000 in
theorem first_ok (V : List (List Nat)) (hV : WF V) (i : Nat) (hi : i < V.length) (hbud : budV V i = true) (many : Nat) (hm : many ≤ 100000) (hfed : Fed V i many) (b off cap : Nat) (w : World) (hv : VAt w b off V) :
    Calls Tryd.prog 47 #[.slice (some ⟨b, off, none⟩) V.length cap, .string (str [i]), .int .i64 (many : Int)] w fun e w' => (∃ g c K, e = .returned (.tuple #[.slice (some ⟨g, 0, none⟩) many c, .int .i64 0]) ∧ many ≤ c ∧ many ≤ (bg V i K).length ∧ U8At w' g 0 ((bg V i K).take many)) ∧ Chg (fun _ => False) w w' := by
  have hn6 := hV.le
  have HI5 : Hid (∃ i0, Tryd.prog.info? 5 = some i0 ∧ i0.zero = some (.int .u8 0) ∧ i0.size = 1 ∧ i0.bytes = 1) := Lib.hid (by
    obtain ⟨i0, h0, h1, h2, h3⟩ := info_parts infoByte5
    exact ⟨i0, h0, h1, h2, h3⟩)
  have HO := Lib.hid (of_ok V hV b off cap w hv)
  have HSH := Lib.hid (shoots_any (some ⟨b, off, none⟩) V.length cap (str [i]) w (by omega) (by rw [str_size]; simp))
  rw [okS_str (by omega) (t := [i]) (by intro c hc; simp at hc; subst hc; exact hi)] at HSH
  have HBD := Lib.hid (bud_any V hV i hi b off cap w hv)
  rw [hbud] at HBD
  have h0s : ∀ bs, str [i] = bs → ∀ h : 0 < bs.size, (bs[0]'h).toNat = 97 + i := by
    rintro _ rfl h
    exact str_zero (p := [i]) (by simp) (by simp; omega) h
  have hs1 : (str [i]).size = 1 := str_size [i]
  have HV := Lib.hid hv; have HWF := Lib.hid hV; have HFED := Lib.hid hfed
  have HBL := Lib.hid (bg_lt hV i)
  obtain ⟨bs, hbs⟩ : ∃ bs, str [i] = bs := ⟨_, rfl⟩
  rw [hbs] at HSH hs1 ⊢
  have h00 := h0s bs hbs
  clear h0s
  have hmod : (((97 + i : Nat) : Int) - 97) % 256 = (i : Int) := by omega
  obtain ⟨C, hC⟩ : ∃ C, 97 + i = C := ⟨_, rfl⟩
  rw [hC] at hmod
  simp only [hC] at h00
  have hii : (i : Int) < (V.length : Int) := by omega
  clear hv hV hbs hC hbud hfed
  go_enter Tryd.func47, Tryd.ntmps47
  go_wp2_with fail
  refine HO.out.mono ?_
  rintro e w1 ⟨rfl, rfl⟩
  go_wp2_with fail
  refine HSH.out.mono ?_
  rintro e w1 ⟨rfl, rfl⟩
  go_wp2_with fail
  refine HBD.out.mono ?_
  rintro e w2 ⟨rfl, hc2⟩
  have HC2 := Lib.hid hc2
  have v1 := (HV.out.chg hc2 (fun x => x)) i hi
  rw [← part_lt hi] at v1
  clear hc2
  have HP0 := Lib.hid (show bg V i 0 = part V i from rfl)
  obtain ⟨p, hp⟩ : ∃ p, part V i = p := ⟨_, rfl⟩
  rw [hp] at v1 HP0
  have HPL := Lib.hid (HBL.out 0)
  rw [HP0.out] at HPL
  clear hp
  obtain ⟨cc, w9, hcv, hq9, hc9⟩ := conv_que p (fun c hc => by have := HPL.out c hc; omega) w2
  obtain ⟨pb, hpb⟩ : ∃ pb, w2.heap.size = pb := ⟨_, rfl⟩
  rw [hpb] at hcv hq9
  have HQ9 := Lib.hid hq9; have HC9 := Lib.hid (HC2.out.trans hc9 (fun _ x => x.elim)); have HPB := Lib.hid (show w1.heap.size ≤ pb by rw [← hpb]; exact HC2.out.size)
  clear hq9 hc9 hpb
  go_wp2_with fail
  clear hcv v1 h00 hmod
  go_loopg [11, 10] many (fun gm kv ov wr => ∃ k g c : Nat, k ≤ many ∧ gm = many - k ∧ kv = .int .i64 ((k + 1 : Nat) : Int) ∧ ov = .slice (some ⟨g, 0, none⟩) (bg V i k).length c ∧ QueC wr g c (bg V i k).length (u8V (bg V i k)) ∧ w1.heap.size ≤ g ∧ Chg (fun _ => False) w1 wr ∧ (bg V i k).length ≤ many + 8)
  case atStart =>
    refine ⟨0, pb, cc, by omega, by omega, rfl, by rw [HP0.out], by rw [HP0.out]; exact HQ9.out, HPB.out, HC9.out, ?_⟩
    have := (HWF.out.part_le i).1
    show (part V i).length ≤ _
    omega
  case round =>
    clear HQ9 HC9
    obtain ⟨k, g, c, hk, rfl, rfl, rfl, hq, hg, hc, hl8⟩ := hrel
    have HQ := Lib.hid hq; have HG := Lib.hid hg; have HC := Lib.hid hc
    have HFK := Lib.hid (HFED.out k)
    have HNX := Lib.hid (show bg V i (k + 1) = bg V i k ++ part V (at0 (bg V i k) (k + 1)) from rfl)
    have HBK := Lib.hid (HBL.out k)
    clear hq hg hc
    obtain ⟨B, hB⟩ : ∃ B, bg V i k = B := ⟨_, rfl⟩
    have HBB := Lib.hid hB
    rw [hB] at HQ HFK HNX HBK hl8 ⊢
    clear hB
    obtain ⟨L, hL⟩ : ∃ L, B.length = L := ⟨_, rfl⟩
    have HLL := Lib.hid hL
    rw [hL] at HQ HFK hl8 ⊢
    by_cases hlt : L < many
    · have d0 : decide (L < many) = true := by simpa using hlt
      have hkL := HFK.out hlt
      have hkB : k + 1 < B.length := by omega
      have y1 := HQ.out.at_ _ _ (u8V_at hkB)
      have hcn := HBK.out _ (at0_mem hkB)
      have hu8 := u8_chr (at0 B (k + 1)) (by omega)
      obtain ⟨K, hK⟩ : ∃ K, k + 1 = K := ⟨_, rfl⟩
      have HKK := Lib.hid hK
      rw [hK] at hkL y1 hcn hu8 HNX ⊢
      have hKm : K ≤ 100000 := by omega
      obtain ⟨d, hd⟩ : ∃ d, at0 B K = d := ⟨_, rfl⟩
      rw [hd] at y1 hcn hu8 HNX
      obtain ⟨D, hD⟩ : ∃ D, 97 + d = D := ⟨_, rfl⟩
      rw [hD] at y1 hu8
      have v1 := (HV.out.chg HC.out (fun x => x)) d hcn
      rw [← part_lt hcn] at v1
      have hp8 := (HWF.out.part_le d).1
      have HPC := Lib.hid (HWF.out.part_le d).2
      obtain ⟨q, hq⟩ : ∃ q, part V d = q := ⟨_, rfl⟩
      rw [hq] at v1 hp8 HPC HNX
      clear hL hkB hK hd hD hq
      have hdi : (d : Int) < (V.length : Int) := by omega
      have hqs := str_size q
      go_wp2_with (at_builtin; refine wpList_append_str rfl (.tmp 52) (.tmp 60) 52 9 rfl 5 HI5.out.choose Tryd.underlying52 Tryd.underlying9 HI5.out.choose_spec.1 HI5.out.choose_spec.2.1 HI5.out.choose_spec.2.2.1 HI5.out.choose_spec.2.2.2 g c L _ (by simp [Act.eval]) HQ.out (str q) (by simp [Act.eval]) (by rw [hqs]; unfold maxLen; omega) (by rw [hqs]; omega) ?_)
      intro g' c' w6 hq6 hg6 hc6
      rw [strCells_str (fun c hc => by have := HPC.out c hc; omega), ← u8V_app, ← HNX.out] at hq6
      have HQ6 := Lib.hid hq6
      have HC6 := Lib.hid (HC.out.trans hc6 (fun k hk => .inr (by rw [hk]; exact HG.out)))
      have HG6 := Lib.hid (show w1.heap.size ≤ g' by
        rcases hg6 with h | h
        · rw [h]; exact HG.out
        · exact Nat.le_trans HC.out.size h)
      have HLN := Lib.hid (show (bg V i K).length = L + q.length by rw [HNX.out, List.length_append, HLL.out])
      clear hq6 hg6 hc6
      go_wp2_with fail
      go_roundg (many - K)
      case measure => have := HKK.out; omega
      case rel =>
        refine ⟨K, g', c', by omega, rfl, by go_num, by rw [HLN.out], by rw [HLN.out]; exact HQ6.out, HG6.out, HC6.out, by rw [HLN.out]; omega⟩
    · have d0 : decide (L < many) = false := by simpa using hlt
      have hLc := HQ.out.le
      have hLm : many ≤ L := by omega
      go_wp2_with fail
      go_ret2
      refine ⟨⟨g, c, k, rfl, by omega, by rw [HBB.out, HLL.out]; exact hLm, fun j hj => ?_⟩, HC.out⟩
      rw [HBB.out] at hj
      simp only [HBB.out]
      rw [List.length_take] at hj
      have hjB : j < B.length := by omega
      have := HQ.out.at_ _ _ (u8V_at hjB)
      rw [Nat.zero_add, this, at0_lt_of hjB, List.getElem_take]
end Go.Proofs.YtilacamhjibneaaDoor
