/- Kind, walked. Its conditions are its premises. -/
import Derived.Test.YtilacamhjibneaaDoorV18
set_option linter.unusedVariables false
namespace Go.Proofs.YtilacamhjibneaaDoor
open Go.RowKit

def mxL (g : Nat → Nat) (t : List Nat) : Nat → Nat
  | 0 => 0
  | k + 1 => max (mxL g t k) (g (at0 t k))
theorem mxL_le (g : Nat → Nat) (t : List Nat) (m : Nat) (h : ∀ c, g c ≤ m) : ∀ k, mxL g t k ≤ m
  | 0 => Nat.zero_le _
  | k + 1 => by have := mxL_le g t m h k; have := h (at0 t k); unfold mxL; omega
theorem natK_le (V : List (List Nat)) (i : Nat) : natK V i ≤ 3 := by
  unfold natK
  split
  · omega
  · split
    · omega
    · split <;> omega
theorem natS_le (V : List (List Nat)) (i : Nat) : natS V i ≤ V.length := by
  have := chF_le V V.length i
  unfold natS
  split <;> omega
def kindB (V : List (List Nat)) (t : List Nat) : Nat := mxL (natK V) t t.length
def kindM (V : List (List Nat)) (t : List Nat) : Nat := mxL (natS V) t t.length
def kindV (V : List (List Nat)) (t : List Nat) : Value := if kindB V t = 2 then .tuple #[.int .i64 2, .int .i64 ((kindM V t : Int) - 1), .int .i64 0] else .tuple #[.int .i64 (kindB V t : Int), .int .i64 0, .int .i64 0]

set_option maxRecDepth 100000 in
set_option maxHeartbeats 1000000 in
theorem kind_ok (V : List (List Nat)) (hV : WF V) (t : List Nat) (ht : ∀ c ∈ t, c < V.length) (hl : t.length ≤ 30) (b off cap : Nat) (w : World) (hv : VAt w b off V) :
    Calls Tryd.prog 24 #[.slice (some ⟨b, off, none⟩) V.length cap, .string (str t)] w fun e w' => e = .returned (kindV V t) ∧ Chg (fun _ => False) w w' := by
  have hn6 := hV.le
  have HS := Lib.hid (shot_ok V hV t ht hl b off cap w hv)
  have HN := Lib.hid (nature_any V hV b off cap w hv)
  have HT := Lib.hid ht
  have HKV := Lib.hid (show kindV V t = if kindB V t = 2 then .tuple #[.int .i64 2, .int .i64 ((kindM V t : Int) - 1), .int .i64 0] else .tuple #[.int .i64 (kindB V t : Int), .int .i64 0, .int .i64 0] from rfl)
  have hpc : ∀ c ∈ t, c < 100 := fun c hc => by have := ht c hc; omega
  clear hv hV ht
  go_enter Tryd.func24, Tryd.ntmps24
  go_wp2_with fail
  refine HS.out.mono ?_
  rintro e w1 ⟨rfl, rfl⟩
  go_wp2_with fail
  refine HN.out.mono ?_
  rintro e w2 ⟨kb, sb, rfl, hk, hs, hc2⟩
  have HK := Lib.hid hk; have HSS := Lib.hid hs; have HC2 := Lib.hid hc2
  clear hk hs hc2
  obtain ⟨cc, w9, hcv, hby, hc9, hsz9⟩ := conv_bytes t hpc w2
  obtain ⟨pb, hpb⟩ : ∃ pb, w2.heap.size = pb := ⟨_, rfl⟩
  rw [hpb] at hcv hby hsz9
  have HBY := Lib.hid hby
  have HK9 := Lib.hid (HK.out.chg hc9 (fun x => x)); have HS9 := Lib.hid (HSS.out.chg hc9 (fun x => x)); have HC9 := Lib.hid (HC2.out.trans hc9 (fun _ x => x.elim))
  clear hpb hpc hby hsz9 hc9 HK HSS HC2
  go_wp2_with fail
  clear hcv
  go_loopg [32, 11, 12] t.length (fun gm iv kv mv wr => ∃ k : Nat, k ≤ t.length ∧ gm = t.length - k ∧ iv = .int .i64 k ∧ kv = .int .i64 (mxL (natK V) t k) ∧ mv = .int .i64 (mxL (natS V) t k) ∧ ∃ n : Nat, wr = w9.drewN n)
  case atStart => exact ⟨0, by omega, by omega, rfl, rfl, rfl, 0, rfl⟩
  case round =>
    obtain ⟨k, hk, rfl, rfl, rfl, rfl, n, rfl⟩ := hrel
    have hKl := mxL_le (natK V) t 3 (natK_le V) k
    have hSl := mxL_le (natS V) t V.length (natS_le V) k
    by_cases hlt : k < t.length
    · have d0 : decide (k < t.length) = true := by simpa using hlt
      have hcn := HT.out _ (List.getElem_mem hlt)
      have y1 := HBY.out k hlt
      have hu8 := u8_chr t[k] (by omega)
      have k1 := nats_at HK9.out (i := t[k]) (by rw [setF_len]; exact hcn)
      have s1 := nats_at HS9.out (i := t[k]) (by rw [setF_len]; exact hcn)
      rw [setF_at _ _ _ hcn _ (Nat.le_refl _), if_pos hcn, Nat.zero_add] at k1 s1
      have hkl := natK_le V t[k]
      have hsl := natS_le V t[k]
      have HKK := Lib.hid (show mxL (natK V) t (k + 1) = max (mxL (natK V) t k) (natK V t[k]) by rw [mxL, at0_lt_of hlt])
      have HSK := Lib.hid (show mxL (natS V) t (k + 1) = max (mxL (natS V) t k) (natS V t[k]) by rw [mxL, at0_lt_of hlt])
      obtain ⟨c, hc⟩ : ∃ c, t[k] = c := ⟨_, rfl⟩
      rw [hc] at hcn hu8 y1 k1 s1 hkl hsl HKK HSK
      obtain ⟨C, hC⟩ : ∃ C, 97 + c = C := ⟨_, rfl⟩
      rw [hC] at hu8 y1
      clear hc hC
      have hci : (c : Int) < (V.length : Int) := by omega
      obtain ⟨x, hx⟩ : ∃ x, natK V c = x := ⟨_, rfl⟩
      obtain ⟨y, hy⟩ : ∃ y, natS V c = y := ⟨_, rfl⟩
      obtain ⟨K, hK⟩ : ∃ K, mxL (natK V) t k = K := ⟨_, rfl⟩
      obtain ⟨S, hS⟩ : ∃ S, mxL (natS V) t k = S := ⟨_, rfl⟩
      rw [hx] at k1 hkl HKK
      rw [hy] at s1 hsl HSK
      rw [hK] at hKl HKK ⊢
      rw [hS] at hSl HSK ⊢
      clear hx hy hK hS
      go_wp2_with fail
      go_region
      go_wp2_with fail
      go_roundg (t.length - (k + 1))
      case measure => omega
      case rel => exact ⟨k + 1, by omega, rfl, by go_num, by rw [HKK.out]; congr 1; omega, by rw [HSK.out]; congr 1; omega, n + 1, rfl⟩
    · obtain rfl : k = t.length := by omega
      rw [show kindB V t = mxL (natK V) t t.length from rfl, show kindM V t = mxL (natS V) t t.length from rfl] at HKV
      obtain ⟨K, hK⟩ : ∃ K, mxL (natK V) t t.length = K := ⟨_, rfl⟩
      obtain ⟨S, hS⟩ : ∃ S, mxL (natS V) t t.length = S := ⟨_, rfl⟩
      rw [hK] at hKl HKV ⊢
      rw [hS] at hSl HKV ⊢
      clear hK hS
      have hw : wrap64 ((S : Int) - 1) = (S : Int) - 1 := by unfold wrap64; omega
      by_cases h2 : K = 2
      · subst h2
        have HR := Lib.hid (HKV.out.trans (if_pos rfl))
        go_wp2_with fail
        go_ret3
        refine ⟨?_, HC9.out.drewN _⟩
        rw [HR.out]
        rfl
      · have HR := Lib.hid (HKV.out.trans (if_neg h2))
        go_wp2_with fail
        go_ret3
        refine ⟨?_, HC9.out.drewN _⟩
        rw [HR.out]
        rfl
end Go.Proofs.YtilacamhjibneaaDoor
