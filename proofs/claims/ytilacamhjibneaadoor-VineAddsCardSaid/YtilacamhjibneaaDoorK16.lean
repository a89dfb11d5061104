/- Texts on the vines, laid together (V112, V113, V114). Their conditions are their premises. -/
import Derived.Test.YtilacamhjibneaaDoorK11
import Derived.Test.YtilacamhjibneaaDoorK14
set_option linter.unusedVariables false
/- At finds a letter wherever there is one. Plain facts. Their conditions are their premises. -/
namespace Go.Proofs.YtilacamhjibneaaDoor
open Go.RowKit

theorem fnd_gone {R : List Nat} : ∀ {s : List Nat} {l : Nat}, fnd s R l = none → sm s R ≤ l
  | [], l, _ => by simp [sm]
  | d :: s, l, h => by
    rw [fnd] at h
    by_cases hd : at0 R d ≤ l
    · rw [if_pos hd] at h
      have := fnd_gone h
      have e : sm (d :: s) R = at0 R d + sm s R := by simp [sm]
      omega
    · rw [if_neg hd] at h
      cases h
theorem at_there {V : List (List Nat)} (hV : WF V) : ∀ (y : Nat) (s : List Nat) (l : Nat), (∀ d ∈ s, d < V.length) → l < M63 → l < (gen V y s).length → atF V y s l ≠ none := by
  intro y
  induction y with
  | zero =>
    intro s l hs hl h hn
    unfold atF at hn
    cases hf : fnd s (tab V 0) l with
    | none =>
      have h1 := fnd_gone hf
      have h2 := sm_gen hV 0 s hs (by omega)
      omega
    | some r => rw [hf] at hn; cases hn
  | succ y ih =>
    intro s l hs hl h hn
    unfold atF at hn
    cases hf : fnd s (tab V (y + 1)) l with
    | none =>
      have h1 := fnd_gone hf
      have h2 := sm_gen hV (y + 1) s hs (by omega)
      omega
    | some r =>
      obtain ⟨d, m⟩ := r
      rw [hf] at hn
      obtain ⟨a, b, rfl, h2, h3⟩ := fnd_split hf
      have hd : d < V.length := hs d (by simp)
      have h4 := tab_gen hV hd (y + 1)
      rw [gen_one] at h4
      exact ih (part V d) m (hV.part_le d).2 (by omega) (by omega) hn
/-- At, of a shoot that is known. -/
theorem at_known {V : List (List Nat)} (hV : WF V) {t : List Nat} (ht : ∀ c ∈ t, c < V.length) {y : Nat} (hy : y ≤ 1000) {G : List Nat} (hG : gen V y t = G) (hl : G.length ≤ 100000) :
    (∀ i, i < G.length → atOk V t (y : Int) (i : Int) = .tuple #[.string (str [at0 G i]), .int .i64 0]) ∧ atOk V t (y : Int) (G.length : Int) = .tuple #[.string ⟨#[]⟩, .int .i64 6] := by
  constructor
  · intro i hi
    unfold atOk
    rw [if_neg (by omega), if_neg (by omega)]
    show (match atF V y t i with | none => _ | some c => _) = _
    cases ha : atF V y t i with
    | none => exact absurd ha (at_there hV y t i ht (by unfold M63; omega) (by rw [hG]; exact hi))
    | some c =>
      have := (at_gen hV y t i c ht (by unfold M63; omega) ha).2
      rw [hG] at this
      rw [this]
  · unfold atOk
    rw [if_neg (by omega), if_neg (by omega)]
    show (match atF V y t G.length with | none => _ | some c => _) = _
    cases ha : atF V y t G.length with
    | none => rfl
    | some c =>
      have := (at_gen hV y t G.length c ht (by unfold M63; omega) ha).1
      rw [hG] at this
      omega
/-- Parts, of a shoot that is known. -/
theorem par_known {V : List (List Nat)} {t : List Nat} {y : Nat} {G : List Nat} (hG : gen V y t = G) (hlt : ∀ c ∈ G, c < V.length) (hl : G.length ≤ 100000) : parX V t y = natI (cntV V.length G) ∧ parE V t y = 0 := by
  have hb : bigC V t y V.length = false := by
    cases h : bigC V t y V.length with
    | false => rfl
    | true =>
      obtain ⟨j, h1, h2⟩ := (bigF_iff _ _).1 h
      rw [cntL_at V t y h1, hG] at h2
      have := List.count_le_length (l := G) (a := j)
      omega
  have e : cntL V t y = cntV V.length G := by
    refine List.ext_getElem (by rw [cntL_len, cntV_len]) (fun j h1 h2 => ?_)
    have hj : j < V.length := by rw [cntL_len] at h1; exact h1
    have e1 := cntL_at V t y hj
    have e2 := cntV_at hlt hj
    rw [at0_lt_of h1, hG] at e1
    rw [at0_lt_of h2] at e2
    rw [e1, e2]
  unfold parX parE
  rw [hb, e]
  exact ⟨rfl, rfl⟩
end Go.Proofs.YtilacamhjibneaaDoor

/- The law VineAdds, walked, of a vine and a shoot without an error. Its conditions are its premises. -/
namespace Go.Proofs.YtilacamhjibneaaDoor
open Go.RowKit

theorem gen_plus (V : List (List Nat)) (a : Nat) : ∀ (b : Nat) (s : List Nat), gen V (a + b) s = gen V b (gen V a s)
  | 0, s => rfl
  | b + 1, s => by rw [← Nat.add_assoc, gen_succ, gen_plus V a b s, gen_succ]
theorem groV_fit {V : List (List Nat)} {t : List Nat} {y : Nat} (hy : y ≤ 1000) : groV V t (y : Int) = if (gen V y t).length ≤ 100000 then .tuple #[.string (str (gen V y t)), .int .i64 0] else .tuple #[.string ⟨#[]⟩, .int .i64 8] := by
  unfold groV
  rw [if_neg (by omega)]
  rfl
theorem lonV_fit {V : List (List Nat)} {t : List Nat} {y : Nat} (hy : y ≤ 1000) (h : (gen V y t).length ≤ 100000) : lonV V t (y : Int) = .tuple #[.int .i64 ((gen V y t).length : Nat), .int .i64 0] := by
  unfold lonV
  rw [if_neg (by omega)]
  show (if 1152921504606846976 < (gen V y t).length then _ else _) = _
  rw [if_neg (by omega)]
  rfl

set_option maxRecDepth 100000 in
set_option maxHeartbeats 1000000 in
theorem vineAdds_main (V : List (List Nat)) (hV : WF V) (t : List Nat) (ht : ∀ c ∈ t, c < V.length) (hl : t.length ≤ 30) (j k p : Nat) (hj : j < 256) (hk : k < 256) (hp : p < 65536) (b o0 cap : Nat) (w : World) (hv : VAt w b o0 V) (hs : SlS w (.slice (some ⟨b, o0, none⟩) V.length cap) (V.map str)) (hfew : fewV (V.map str) (str t) = true) :
    Calls Tryd.prog 14 #[.slice (some ⟨b, o0, none⟩) V.length cap, .string (str t), .int .u8 (j : Int), .int .u8 (k : Int), .int .u16 (p : Int)] w fun e w' => e = .returned (.bool true) ∧ Chg (fun _ => False) w w' := by
  have hn6 := hV.le
  have hn1 := hV.pos
  have HF := Lib.hid (few_any (V.map str) (str t) _ w hs (by rw [str_size]; unfold maxLen; omega))
  rw [hfew] at HF
  obtain ⟨x, hx⟩ : ∃ x, j % 12 = x := ⟨_, rfl⟩
  obtain ⟨y, hy⟩ : ∃ y, k % 12 = y := ⟨_, rfl⟩
  have hxI : (j : Int) % 12 = (x : Int) := by omega
  have hyI : (k : Int) % 12 = (y : Int) := by omega
  obtain ⟨z, hz⟩ : ∃ z, x + y = z := ⟨_, rfl⟩
  have hzI : (x : Int) + (y : Int) = (z : Int) := by omega
  have hx11 : x ≤ 11 := by omega
  have hy11 : y ≤ 11 := by omega
  have hz22 : z ≤ 22 := by omega
  have HGX := Lib.hid (fun w hv => grow_ok V hV t ht hl (x : Int) (by unfold I64; omega) b o0 cap w hv)
  have HGZ := Lib.hid (fun w hv => grow_ok V hV t ht hl (z : Int) (by unfold I64; omega) b o0 cap w hv)
  have hgx := groV_fit (V := V) (t := t) (y := x) (by omega)
  have hgz := groV_fit (V := V) (t := t) (y := z) (by omega)
  have HV := Lib.hid hv
  by_cases hA : (gen V x t).length ≤ 100000
  · rw [if_pos hA] at hgx
    rw [hgx] at HGX
    by_cases hB : (gen V z t).length ≤ 100000
    · rw [if_pos hB] at hgz
      rw [hgz] at HGZ
      have HLO := Lib.hid (fun w hv => lon_ok V hV t ht hl (z : Int) (by unfold I64; omega) b o0 cap w hv)
      have hlf := lonV_fit (V := V) (t := t) (y := z) (by omega) hB
      rw [hlf] at HLO
      have HPA := Lib.hid (fun w hv => parts_is V hV t ht hl z (by omega) b o0 cap w hv)
      obtain ⟨G, hG⟩ : ∃ G, gen V z t = G := ⟨_, rfl⟩
      have hGl : ∀ c ∈ G, c < V.length := by rw [← hG]; exact gen_lt hV z t ht
      rw [hG] at hB HLO HGZ
      obtain ⟨pk1, pk2⟩ := par_known hG hGl hB
      rw [pk1, pk2] at HPA
      have HAK := Lib.hid (at_known hV ht (y := z) (by omega) hG hB)
      have HAT := Lib.hid (fun (pl : Int) (h : I64 pl) w hv => at_ok V hV t ht hl (z : Int) pl (by unfold I64; omega) h b o0 cap w hv)
      have HGL := Lib.hid hGl
      have HAA := Lib.hid (fun (h30 : (gen V x t).length ≤ 30) w hv => grow_ok V hV (gen V x t) (gen_lt hV x t ht) h30 (y : Int) (by unfold I64; omega) b o0 cap w hv)
      have hgy := groV_fit (V := V) (t := gen V x t) (y := y) (by omega)
      rw [← gen_plus, hz, hG, if_pos hB] at hgy
      simp only [hgy] at HAA
      obtain ⟨A, hAA⟩ : ∃ A, gen V x t = A := ⟨_, rfl⟩
      rw [hAA] at hA HGX
      simp only [hAA] at HAA
      have HSI := Lib.hid hs
      have hsA := str_size A
      have hsG := str_size G
      clear hgx hgz hgy hlf pk1 pk2 hAA hG hGl hz hx hy hv hs hfew
      obtain ⟨na, hna⟩ : ∃ na, A.length = na := ⟨_, rfl⟩
      obtain ⟨nz, hnz⟩ : ∃ nz, G.length = nz := ⟨_, rfl⟩
      have HNZ := Lib.hid hnz
      rw [hna] at hsA hA
      rw [hnz] at hsG hB HLO
      simp only [hna] at HAA
      clear hna hnz
      by_cases h30 : na ≤ 30
      · have HAB := Lib.hid (HAA.out h30)
        have t0 : decide (na ≤ 30) = true := by simpa using h30
        clear HAA
        go_enter Tryd.func14, Tryd.ntmps14
        go_wp2_with fail
        refine HF.out.mono ?_
        rintro e w1 ⟨rfl, rfl⟩
        go_wp2_with fail
        refine (HGX.out _ HV.out).mono ?_
        rintro e w2 ⟨rfl, hc⟩
        have HC2 := Lib.hid hc
        clear hc
        go_wp2_with fail
        refine (HGZ.out _ (HV.out.chg HC2.out (fun x => x))).mono ?_
        rintro e w3 ⟨rfl, hc⟩
        have HC3 := Lib.hid (HC2.out.trans hc (fun _ x => x.elim))
        clear hc
        go_wp2_with fail
        refine (HAB.out _ (HV.out.chg HC3.out (fun x => x))).mono ?_
        rintro e w4 ⟨rfl, hc⟩
        have HC4 := Lib.hid (HC3.out.trans hc (fun _ x => x.elim))
        clear hc
        go_wp2_with fail
        refine (HLO.out _ (HV.out.chg HC4.out (fun x => x))).mono ?_
        rintro e w5 ⟨rfl, hc⟩
        have HC5 := Lib.hid (HC4.out.trans hc (fun _ x => x.elim))
        clear hc
        go_wp2_with fail
        refine (HPA.out _ (HV.out.chg HC5.out (fun x => x))).mono ?_
        rintro e w6 ⟨⟨vl, rfl, hsl⟩, hc⟩
        have HC6 := Lib.hid (HC5.out.trans hc (fun _ x => x.elim))
        obtain ⟨ao, g, off, c, rfl, hX, hI⟩ := hsl
        have HSL : Hid (SlI w6 (.slice ao (natI (cntV V.length G)).length c) (natI (cntV V.length G))) := Lib.hid ⟨ao, g, off, c, rfl, hX, hI⟩
        have hcl : (natI (cntV V.length G)).length = V.length := by rw [natI_size, cntV_len]
        rw [hcl] at HSL ⊢
        clear hc hX hI
        have hmk := make_ints V.length (by omega)
        have HB0 := Lib.hid (made_ints V.length w6); have HCB := Lib.hid (HC6.out.alloc (.cells (Array.replicate V.length (.int .i64 0)) 3))
        have HCC := Lib.hid ((Chg.refl (fun _ => False) w6).alloc (.cells (Array.replicate V.length (.int .i64 0)) 3))
        obtain ⟨B, hB'⟩ : ∃ B, w6.heap.size = B := ⟨_, rfl⟩
        have HBE := Lib.hid (show w6.heap.size ≤ B by rw [hB']; exact Nat.le_refl _)
        rw [hB'] at HB0
        go_wp2_with fail
        clear hmk hB'
        generalize w6.alloc (.cells (Array.replicate V.length (.int .i64 0)) 3) = W0 at HB0 HCB HCC ⊢
        go_loopg [22] nz (fun gm iv wr => ∃ q : Nat, q ≤ nz ∧ gm = nz - q ∧ iv = .int .i64 (q : Int) ∧ Blk wr B 3 (nv (cntF V.length G q)) ∧ Chg (fun _ => False) w6 wr)
        case atStart => exact ⟨0, by omega, by omega, rfl, HB0.out, HCC.out⟩
        case round =>
          clear HB0 HCC
          obtain ⟨q, hq, rfl, rfl, hblk, hchg⟩ := hrel
          have HBK := Lib.hid hblk; have HC := Lib.hid hchg
          clear hblk hchg
          by_cases hlt' : q < nz
          · have d0 : decide (q < nz) = true := by simpa using hlt'
            have hqG : q < G.length := by rw [HNZ.out]; exact hlt'
            have hcn := HGL.out _ (List.getElem_mem hqG)
            have hidx := index_chr hqG (by omega)
            have hu8 := u8_chr G[q] (by omega)
            have HS : Hid (cntF V.length G (q + 1) = (cntF V.length G q).set G[q] (at0 (cntF V.length G q) G[q] + 1)) := Lib.hid (by rw [cntF, at0_lt_of hqG])
            have hle := at0_le (cntF_le V.length G q) G[q]
            have k1 := HBK.out.cell_some (nv_at (i := G[q]) (by rw [cntF_len]; omega))
            have f1 := HBK.out.free G[q]
            obtain ⟨c, hc⟩ : ∃ c, G[q] = c := ⟨_, rfl⟩
            rw [hc] at hcn hu8 HS hle k1 f1
            simp only [hc] at hidx
            obtain ⟨C, hC⟩ : ∃ C, 97 + c = C := ⟨_, rfl⟩
            rw [hC] at hu8
            simp only [hC] at hidx
            obtain ⟨m, hm⟩ : ∃ m, at0 (cntF V.length G q) c = m := ⟨_, rfl⟩
            rw [hm] at HS hle k1
            clear hc hC hm hqG
            have hci : (c : Int) < (V.length : Int) := by omega
            have hci2 : decide (V.length ≤ c) = false := by simp; omega
            go_wp2_with fail
            go_roundg (nz - (q + 1))
            case measure => omega
            case rel =>
              refine ⟨q + 1, by omega, rfl, by go_num, ?_, HC.out.setCell (.inr HBE.out) _⟩
              rw [HS.out, nv_set]
              exact HBK.out.set c _
          · obtain rfl : q = nz := by omega
            have d0 : decide (q < q) = false := by simp
            have HBV : Hid (Blk wr B 3 (nv (cntV V.length G))) := Lib.hid (by
              have := HBK.out
              rw [← HNZ.out] at this
              exact this)
            have HSB := Lib.hid (sli_of_nats (c := V.length) (nats_of_blk HBV.out))
            rw [cntV_len] at HSB
            have HSM := Lib.hid (same_any _ _ _ _ wr HSB.out (sli_chg HSL.out HC.out) (by rw [natI_size, cntV_len]; omega) (by rw [natI_size, cntV_len]; omega))
            rw [show decide (natI (cntV V.length G) = natI (cntV V.length G)) = true by simp] at HSM
            have HC7 := Lib.hid (HC6.out.trans HC.out (fun _ x => x.elim))
            go_wp2_with fail
            refine HSM.out.mono ?_
            rintro e w8 ⟨rfl, q8, rfl⟩
            have HC8 := Lib.hid (HC7.out.drewN q8)
            by_cases hz0 : q = 0
            · subst hz0
              go_wp2_with fail
              refine (alive_any _).mono ?_
              rintro e w9 ⟨rfl, hc9⟩
              have HC9 := Lib.hid (HC8.out.trans hc9 (fun _ x => x.elim))
              clear hc9
              go_wp2_with fail
              go_ret
              exact ⟨rfl, HC9.out⟩
            · have hz1 : ¬ (q : Int) = 0 := by omega
              have hz2 : ((q : Int) == 0) = false := by simpa using hz0
              obtain ⟨r, hr⟩ : ∃ r, p % q = r := ⟨_, rfl⟩
              have hrq : r < q := by rw [← hr]; exact Nat.mod_lt _ (by omega)
              have hrI : (p : Int) % (q : Int) = (r : Int) := by rw [← hr]; rfl
              have hrG : r < G.length := by rw [HNZ.out]; exact hrq
              have HA1 := Lib.hid (fun w hv => HAT.out (r : Int) (by unfold I64; omega) w hv)
              have HA2 := Lib.hid (fun w hv => HAT.out (q : Int) (by unfold I64; omega) w hv)
              have hk1 := HAK.out.1 r hrG
              have hk2 := HAK.out.2
              rw [HNZ.out] at hk2
              simp only [hk1] at HA1
              simp only [hk2] at HA2
              have hone := str_one hrG
              rw [at0_lt_of hrG] at HA1
              obtain ⟨S1, hS1⟩ : ∃ S1, str [G[r]] = S1 := ⟨_, rfl⟩
              rw [hS1] at HA1 hone
              have hr1 : ((r : Int) + 1).toNat = r + 1 := by omega
              clear hr hk1 hk2 hS1 hrG
              go_wp2_with fail
              refine (HA1.out _ (HV.out.chg HC8.out (fun x => x))).mono ?_
              rintro e w9 ⟨rfl, hc9⟩
              have HC9 := Lib.hid (HC8.out.trans hc9 (fun _ x => x.elim))
              clear hc9
              go_wp2_with fail
              refine (HA2.out _ (HV.out.chg HC9.out (fun x => x))).mono ?_
              rintro e w10 ⟨rfl, hc9⟩
              have HC10 := Lib.hid (HC9.out.trans hc9 (fun _ x => x.elim))
              clear hc9
              go_wp2_with fail
              refine (alive_any _).mono ?_
              rintro e w11 ⟨rfl, hc9⟩
              have HC11 := Lib.hid (HC10.out.trans hc9 (fun _ x => x.elim))
              clear hc9
              go_wp2_with fail
              go_ret
              exact ⟨rfl, HC11.out⟩
      · -- B2
        have t0 : decide (na ≤ 30) = false := by simpa using h30
        clear HAA
        go_enter Tryd.func14, Tryd.ntmps14
        go_wp2_with fail
        refine HF.out.mono ?_
        rintro e w1 ⟨rfl, rfl⟩
        go_wp2_with fail
        refine (HGX.out _ HV.out).mono ?_
        rintro e w2 ⟨rfl, hc⟩
        have HC2 := Lib.hid hc
        clear hc
        go_wp2_with fail
        refine (HGZ.out _ (HV.out.chg HC2.out (fun x => x))).mono ?_
        rintro e w3 ⟨rfl, hc⟩
        have HC3 := Lib.hid (HC2.out.trans hc (fun _ x => x.elim))
        clear hc
        have HC4 := Lib.hid HC3.out
        go_wp2_with fail
        refine (HLO.out _ (HV.out.chg HC4.out (fun x => x))).mono ?_
        rintro e w5 ⟨rfl, hc⟩
        have HC5 := Lib.hid (HC4.out.trans hc (fun _ x => x.elim))
        clear hc
        go_wp2_with fail
        refine (HPA.out _ (HV.out.chg HC5.out (fun x => x))).mono ?_
        rintro e w6 ⟨⟨vl, rfl, hsl⟩, hc⟩
        have HC6 := Lib.hid (HC5.out.trans hc (fun _ x => x.elim))
        obtain ⟨ao, g, off, c, rfl, hX, hI⟩ := hsl
        have HSL : Hid (SlI w6 (.slice ao (natI (cntV V.length G)).length c) (natI (cntV V.length G))) := Lib.hid ⟨ao, g, off, c, rfl, hX, hI⟩
        have hcl : (natI (cntV V.length G)).length = V.length := by rw [natI_size, cntV_len]
        rw [hcl] at HSL ⊢
        clear hc hX hI
        have hmk := make_ints V.length (by omega)
        have HB0 := Lib.hid (made_ints V.length w6); have HCB := Lib.hid (HC6.out.alloc (.cells (Array.replicate V.length (.int .i64 0)) 3))
        have HCC := Lib.hid ((Chg.refl (fun _ => False) w6).alloc (.cells (Array.replicate V.length (.int .i64 0)) 3))
        obtain ⟨B, hB'⟩ : ∃ B, w6.heap.size = B := ⟨_, rfl⟩
        have HBE := Lib.hid (show w6.heap.size ≤ B by rw [hB']; exact Nat.le_refl _)
        rw [hB'] at HB0
        go_wp2_with fail
        clear hmk hB'
        generalize w6.alloc (.cells (Array.replicate V.length (.int .i64 0)) 3) = W0 at HB0 HCB HCC ⊢
        go_loopg [22] nz (fun gm iv wr => ∃ q : Nat, q ≤ nz ∧ gm = nz - q ∧ iv = .int .i64 (q : Int) ∧ Blk wr B 3 (nv (cntF V.length G q)) ∧ Chg (fun _ => False) w6 wr)
        case atStart => exact ⟨0, by omega, by omega, rfl, HB0.out, HCC.out⟩
        case round =>
          clear HB0 HCC
          obtain ⟨q, hq, rfl, rfl, hblk, hchg⟩ := hrel
          have HBK := Lib.hid hblk; have HC := Lib.hid hchg
          clear hblk hchg
          by_cases hlt' : q < nz
          · have d0 : decide (q < nz) = true := by simpa using hlt'
            have hqG : q < G.length := by rw [HNZ.out]; exact hlt'
            have hcn := HGL.out _ (List.getElem_mem hqG)
            have hidx := index_chr hqG (by omega)
            have hu8 := u8_chr G[q] (by omega)
            have HS : Hid (cntF V.length G (q + 1) = (cntF V.length G q).set G[q] (at0 (cntF V.length G q) G[q] + 1)) := Lib.hid (by rw [cntF, at0_lt_of hqG])
            have hle := at0_le (cntF_le V.length G q) G[q]
            have k1 := HBK.out.cell_some (nv_at (i := G[q]) (by rw [cntF_len]; omega))
            have f1 := HBK.out.free G[q]
            obtain ⟨c, hc⟩ : ∃ c, G[q] = c := ⟨_, rfl⟩
            rw [hc] at hcn hu8 HS hle k1 f1
            simp only [hc] at hidx
            obtain ⟨C, hC⟩ : ∃ C, 97 + c = C := ⟨_, rfl⟩
            rw [hC] at hu8
            simp only [hC] at hidx
            obtain ⟨m, hm⟩ : ∃ m, at0 (cntF V.length G q) c = m := ⟨_, rfl⟩
            rw [hm] at HS hle k1
            clear hc hC hm hqG
            have hci : (c : Int) < (V.length : Int) := by omega
            have hci2 : decide (V.length ≤ c) = false := by simp; omega
            go_wp2_with fail
            go_roundg (nz - (q + 1))
            case measure => omega
            case rel =>
              refine ⟨q + 1, by omega, rfl, by go_num, ?_, HC.out.setCell (.inr HBE.out) _⟩
              rw [HS.out, nv_set]
              exact HBK.out.set c _
          · obtain rfl : q = nz := by omega
            have d0 : decide (q < q) = false := by simp
            have HBV : Hid (Blk wr B 3 (nv (cntV V.length G))) := Lib.hid (by
              have := HBK.out
              rw [← HNZ.out] at this
              exact this)
            have HSB := Lib.hid (sli_of_nats (c := V.length) (nats_of_blk HBV.out))
            rw [cntV_len] at HSB
            have HSM := Lib.hid (same_any _ _ _ _ wr HSB.out (sli_chg HSL.out HC.out) (by rw [natI_size, cntV_len]; omega) (by rw [natI_size, cntV_len]; omega))
            rw [show decide (natI (cntV V.length G) = natI (cntV V.length G)) = true by simp] at HSM
            have HC7 := Lib.hid (HC6.out.trans HC.out (fun _ x => x.elim))
            go_wp2_with fail
            refine HSM.out.mono ?_
            rintro e w8 ⟨rfl, q8, rfl⟩
            have HC8 := Lib.hid (HC7.out.drewN q8)
            by_cases hz0 : q = 0
            · subst hz0
              go_wp2_with fail
              refine (alive_any _).mono ?_
              rintro e w9 ⟨rfl, hc9⟩
              have HC9 := Lib.hid (HC8.out.trans hc9 (fun _ x => x.elim))
              clear hc9
              go_wp2_with fail
              go_ret
              exact ⟨rfl, HC9.out⟩
            · have hz1 : ¬ (q : Int) = 0 := by omega
              have hz2 : ((q : Int) == 0) = false := by simpa using hz0
              obtain ⟨r, hr⟩ : ∃ r, p % q = r := ⟨_, rfl⟩
              have hrq : r < q := by rw [← hr]; exact Nat.mod_lt _ (by omega)
              have hrI : (p : Int) % (q : Int) = (r : Int) := by rw [← hr]; rfl
              have hrG : r < G.length := by rw [HNZ.out]; exact hrq
              have HA1 := Lib.hid (fun w hv => HAT.out (r : Int) (by unfold I64; omega) w hv)
              have HA2 := Lib.hid (fun w hv => HAT.out (q : Int) (by unfold I64; omega) w hv)
              have hk1 := HAK.out.1 r hrG
              have hk2 := HAK.out.2
              rw [HNZ.out] at hk2
              simp only [hk1] at HA1
              simp only [hk2] at HA2
              have hone := str_one hrG
              rw [at0_lt_of hrG] at HA1
              obtain ⟨S1, hS1⟩ : ∃ S1, str [G[r]] = S1 := ⟨_, rfl⟩
              rw [hS1] at HA1 hone
              have hr1 : ((r : Int) + 1).toNat = r + 1 := by omega
              clear hr hk1 hk2 hS1 hrG
              go_wp2_with fail
              refine (HA1.out _ (HV.out.chg HC8.out (fun x => x))).mono ?_
              rintro e w9 ⟨rfl, hc9⟩
              have HC9 := Lib.hid (HC8.out.trans hc9 (fun _ x => x.elim))
              clear hc9
              go_wp2_with fail
              refine (HA2.out _ (HV.out.chg HC9.out (fun x => x))).mono ?_
              rintro e w10 ⟨rfl, hc9⟩
              have HC10 := Lib.hid (HC9.out.trans hc9 (fun _ x => x.elim))
              clear hc9
              go_wp2_with fail
              refine (alive_any _).mono ?_
              rintro e w11 ⟨rfl, hc9⟩
              have HC11 := Lib.hid (HC10.out.trans hc9 (fun _ x => x.elim))
              clear hc9
              go_wp2_with fail
              go_ret
              exact ⟨rfl, HC11.out⟩
    · rw [if_neg hB] at hgz
      rw [hgz] at HGZ
      clear hgx hgz hz hx hy hv hs hfew
      obtain ⟨A, hAA⟩ : ∃ A, gen V x t = A := ⟨_, rfl⟩
      rw [hAA] at hA HGX
      clear hAA hB hA
      go_enter Tryd.func14, Tryd.ntmps14
      go_wp2_with fail
      refine HF.out.mono ?_
      rintro e w1 ⟨rfl, rfl⟩
      go_wp2_with fail
      refine (HGX.out _ HV.out).mono ?_
      rintro e w2 ⟨rfl, hc⟩
      have HC2 := Lib.hid hc
      clear hc
      go_wp2_with fail
      refine (HGZ.out _ (HV.out.chg HC2.out (fun x => x))).mono ?_
      rintro e w3 ⟨rfl, hc⟩
      have HC3 := Lib.hid (HC2.out.trans hc (fun _ x => x.elim))
      clear hc
      go_wp2_with fail
      refine (alive_any _).mono ?_
      rintro e w4 ⟨rfl, hc⟩
      have HC4 := Lib.hid (HC3.out.trans hc (fun _ x => x.elim))
      clear hc
      go_wp2_with fail
      go_ret
      exact ⟨rfl, HC4.out⟩
  · rw [if_neg hA] at hgx
    rw [hgx] at HGX
    obtain ⟨S, E, hSE⟩ : ∃ S E, groV V t (z : Int) = .tuple #[.string S, .int .i64 E] := by
      rw [hgz]
      split <;> exact ⟨_, _, rfl⟩
    rw [hSE] at HGZ
    clear hgx hgz hz hx hy hv hs hfew hA hSE
    go_enter Tryd.func14, Tryd.ntmps14
    go_wp2_with fail
    refine HF.out.mono ?_
    rintro e w1 ⟨rfl, rfl⟩
    go_wp2_with fail
    refine (HGX.out _ HV.out).mono ?_
    rintro e w2 ⟨rfl, hc⟩
    have HC2 := Lib.hid hc
    clear hc
    go_wp2_with fail
    refine (HGZ.out _ (HV.out.chg HC2.out (fun x => x))).mono ?_
    rintro e w3 ⟨rfl, hc⟩
    have HC3 := Lib.hid (HC2.out.trans hc (fun _ x => x.elim))
    clear hc
    go_wp2_with fail
    refine (alive_any _).mono ?_
    rintro e w4 ⟨rfl, hc⟩
    have HC4 := Lib.hid (HC3.out.trans hc (fun _ x => x.elim))
    clear hc
    go_wp2_with fail
    go_ret
    exact ⟨rfl, HC4.out⟩
end Go.Proofs.YtilacamhjibneaaDoor

/- The law VineAdds, at any input. No condition but the arguments' ranges. -/
namespace Go.Proofs.YtilacamhjibneaaDoor
open Go.RowKit

set_option maxRecDepth 100000 in
set_option maxHeartbeats 1000000 in
theorem grow_err (P : List ByteArray) (s : ByteArray) (years : Int) (hn : P.length ≤ 1000) (hz : ∀ p ∈ P, p.size ≤ 1000) (hzs : s.size ≤ 1000) (E : Nat) (hE : errS P s = E) (hE0 : E ≠ 0) (v : Value) (w : World) (hv : SlS w v P) :
    Calls Tryd.prog 30 #[v, .string s, .int .i64 years] w fun r w' => r = .returned (.tuple #[.string ⟨#[]⟩, .int .i64 (E : Int)]) ∧ w' = w := by
  obtain ⟨ao, b, off, cap, rfl, hst, ha⟩ := hv.form
  have HS := Lib.hid (shot_any P s ao cap b off w hst ha hn hz hzs)
  rw [show shotV ao cap P s = .tuple #[.slice none 0 0, .int .i64 (E : Nat)] by unfold shotV; rw [hE, if_neg hE0]] at HS
  have dn : (((E : Nat) : Int) != 0) = true := by simpa using hE0
  clear hE hE0 hst ha hv
  go_enter Tryd.func30, Tryd.ntmps30
  go_wp2_with fail
  refine HS.out.mono ?_
  rintro e w1 ⟨rfl, rfl⟩
  go_wp2_with fail
  go_ret2
  exact ⟨rfl, rfl⟩

set_option maxRecDepth 100000 in
set_option maxHeartbeats 1000000 in
theorem vineAdds_law (P : List ByteArray) (s : ByteArray) (j k p : Int) (hj : (Lit.int .u8 j).wf = true) (hk : (Lit.int .u8 k).wf = true) (hp : (Lit.int .u16 p).wf = true) (v : Value) (w : World) (hv : SlS w v P) (hs : s.size ≤ maxLen) :
    Calls Tryd.prog 14 #[v, .string s, .int .u8 j, .int .u8 k, .int .u16 p] w fun e w' => e = .returned (.bool true) ∧ Chg (fun _ => False) w w' := by
  obtain ⟨j, rfl, hj'⟩ := u8_of hj
  obtain ⟨k, rfl, hk'⟩ := u8_of hk
  obtain ⟨p, rfl, hp'⟩ := u16_of hp
  clear hj hk hp
  have HF := Lib.hid (few_any P s v w hv hs)
  by_cases hfew : fewV P s = true
  · obtain ⟨hn, hz, hzs⟩ := few_small hfew
    by_cases he : errS P s = 0
    · obtain ⟨V, t, rfl, rfl, hV, hl, ht⟩ := shot_of he
      obtain ⟨ao, b, off, cap, rfl, hst, hao⟩ := hv.form
      have hpos := hV.pos
      obtain rfl := hao.resolve_left (fun e => by have h0 := congrArg List.length e; rw [List.length_map, List.length_nil] at h0; omega)
      have hva := vat_of hst
      rw [List.length_map] at hv ⊢
      exact vineAdds_main V hV t ht hl j k p hj' hk' hp' b off cap w hva hv hfew
    · rw [hfew] at HF
      obtain ⟨E, hE⟩ : ∃ E, errS P s = E := ⟨_, rfl⟩
      have hE0 : E ≠ 0 := by rw [← hE]; exact he
      have HG := Lib.hid (fun years w hv => grow_err P s years hn hz hzs E hE hE0 v w hv)
      have HV := Lib.hid hv
      have dn : (((E : Nat) : Int) != 0) = true := by simpa using hE0
      obtain ⟨x, hx⟩ : ∃ x, j % 12 = x := ⟨_, rfl⟩
      obtain ⟨y, hy⟩ : ∃ y, k % 12 = y := ⟨_, rfl⟩
      have hxI : (j : Int) % 12 = (x : Int) := by omega
      have hyI : (k : Int) % 12 = (y : Int) := by omega
      have hx11 : x ≤ 11 := by omega
      have hy11 : y ≤ 11 := by omega
      clear hE hE0 he hfew hn hz hv hx hy
      go_enter Tryd.func14, Tryd.ntmps14
      go_wp2_with fail
      refine HF.out.mono ?_
      rintro e w1 ⟨rfl, rfl⟩
      go_wp2_with fail
      refine (HG.out _ _ HV.out).mono ?_
      rintro e w2 ⟨rfl, rfl⟩
      go_wp2_with fail
      refine (HG.out _ _ HV.out).mono ?_
      rintro e w3 ⟨rfl, rfl⟩
      go_wp2_with fail
      refine (alive_any _).mono ?_
      rintro e w4 ⟨rfl, hc⟩
      have HC4 := Lib.hid hc
      clear hc
      go_wp2_with fail
      go_ret
      exact ⟨rfl, HC4.out⟩
  · have hff : fewV P s = false := by simpa using hfew
    rw [hff] at HF
    clear hfew hff hv hj' hk' hp'
    go_enter Tryd.func14, Tryd.ntmps14
    go_wp2_with fail
    refine HF.out.mono ?_
    rintro e w1 ⟨rfl, rfl⟩
    go_wp2_with fail
    refine (alive_any w1).mono ?_
    rintro e w2 ⟨rfl, hc2⟩
    have HC2 := Lib.hid hc2
    clear hc2
    go_wp2_with fail
    go_ret
    exact ⟨rfl, HC2.out⟩
end Go.Proofs.YtilacamhjibneaaDoor
