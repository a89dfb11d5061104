/- Buds, walked. Their conditions are their premises. -/
import Derived.Test.YtilacamhjibneaaDoorV23
set_option linter.unusedVariables false
namespace Go.Proofs.YtilacamhjibneaaDoor
open Go.RowKit

def kindP (V : List (List Nat)) (c : Nat) : Bool := decide (0 < natK V c)
theorem lit_any (V : List (List Nat)) (hV : WF V) (c : Nat) (hc : c < V.length) (pb kb kcap : Nat) (w : World) (hp : w.cell? ⟨pb, 0, none⟩ = some (.slice (some ⟨kb, 0, none⟩) V.length kcap)) (hk : NatsAt w kb 0 (setF V.length (natK V) V.length)) :
    Calls Tryd.prog 88 #[.int .u8 ((97 + c : Nat) : Int), .pointer (some ⟨pb, 0, none⟩)] w fun e w' => e = .returned (.bool (kindP V c)) ∧ w' = w := by
  have hn6 := hV.le
  have hu8 := u8_chr c (by omega)
  have k1 := nats_at hk (i := c) (by rw [setF_len]; exact hc)
  rw [setF_at _ _ _ hc _ (Nat.le_refl _), if_pos hc, Nat.zero_add] at k1
  obtain ⟨C, hC⟩ : ∃ C, 97 + c = C := ⟨_, rfl⟩
  rw [hC] at hu8 ⊢
  clear hC hk
  have hci : (c : Int) < (V.length : Int) := by omega
  have HK := Lib.hid (show kindP V c = decide (0 < natK V c) from rfl)
  obtain ⟨x, hx⟩ : ∃ x, natK V c = x := ⟨_, rfl⟩
  rw [hx] at k1 HK
  clear hx
  go_enter Tryd.func88, Tryd.ntmps88
  go_wp2_with fail
  go_ret
  exact ⟨by rw [HK.out]; simp, rfl⟩

/-- The bytes of letters. -/
def U8At (w : World) (b off : Nat) (l : List Nat) : Prop := ∀ k (h : k < l.length), w.cell? ⟨b, off + k, none⟩ = some (.int .u8 ((97 + l[k] : Nat) : Int))
theorem any_take_succ {q : Nat → Bool} {l : List Nat} {j : Nat} (h : j < l.length) (h1 : (l.take j).any q = false) (h2 : q l[j] = false) : (l.take (j + 1)).any q = false := by
  rw [List.take_succ_eq_append_getElem h, List.any_append, h1]
  simp [h2]

set_option maxRecDepth 100000 in
set_option maxHeartbeats 1000000 in
theorem index_any (q : Nat → Bool) (l : List Nat) (hl : l.length ≤ 1000) (pb : Nat) (b cap : Nat) (w : World) (hu : U8At w b 0 l)
    (hcall : ∀ c ∈ l, Calls Tryd.prog 88 #[.int .u8 ((97 + c : Nat) : Int), .pointer (some ⟨pb, 0, none⟩)] w fun e w' => e = .returned (.bool (q c)) ∧ w' = w) :
    Calls Tryd.prog 99 #[.slice (some ⟨b, 0, none⟩) l.length cap, .func (.func 88) #[] #[.pointer (some ⟨pb, 0, none⟩)]] w fun e w' => (∃ r : Int, e = .returned (.int .i64 r) ∧ decide (0 ≤ r) = l.any q) ∧ w' = w := by
  have HU := Lib.hid hu; have HC := Lib.hid hcall
  clear hu hcall
  go_enter Tryd.func99, Tryd.ntmps99
  go_wp2_with fail
  go_loopg [8] l.length (fun gm jv wr => ∃ j : Nat, j ≤ l.length ∧ gm = l.length - j ∧ jv = .int .i64 j ∧ (l.take j).any q = false ∧ wr = w)
  case atStart => exact ⟨0, by omega, by omega, rfl, rfl, rfl⟩
  case round =>
    obtain ⟨j, hj, rfl, rfl, hn, rfl⟩ := hrel
    have HN := Lib.hid hn
    clear hn
    by_cases hjl : j < l.length
    · have d0 : decide (j < l.length) = true := by simpa using hjl
      have y1 := HU.out j hjl
      rw [Nat.zero_add] at y1
      have HCJ := Lib.hid (HC.out _ (List.getElem_mem hjl))
      have HTS := Lib.hid (any_take_succ (q := q) hjl HN.out)
      have HAN := Lib.hid (show q l[j] = true → l.any q = true from fun h => List.any_eq_true.2 ⟨_, List.getElem_mem hjl, h⟩)
      obtain ⟨c, hc⟩ : ∃ c, l[j] = c := ⟨_, rfl⟩
      rw [hc] at y1 HCJ HTS HAN
      clear hc
      obtain ⟨C, hC⟩ : ∃ C, 97 + c = C := ⟨_, rfl⟩
      rw [hC] at y1 HCJ
      clear hC
      obtain ⟨x, hx⟩ : ∃ x, q c = x := ⟨_, rfl⟩
      rw [hx] at HCJ HTS HAN
      clear hx
      cases x
      · have HTN := Lib.hid (HTS.out rfl)
        clear HTS HAN
        go_wp2_with fail
        refine HCJ.out.mono ?_
        rintro e w1 ⟨rfl, rfl⟩
        go_wp2_with fail
        go_roundg (l.length - (j + 1))
        case measure => omega
        case rel => exact ⟨j + 1, by omega, rfl, by go_num, HTN.out, rfl⟩
      · have HAT := Lib.hid (HAN.out rfl)
        clear HTS HAN
        go_wp2_with fail
        refine HCJ.out.mono ?_
        rintro e w1 ⟨rfl, rfl⟩
        go_wp2_with fail
        go_ret
        exact ⟨⟨(j : Int), rfl, by rw [HAT.out]; simp⟩, rfl⟩
    · obtain rfl : j = l.length := by omega
      go_wp2_with fail
      go_ret
      exact ⟨⟨-1, rfl, by have := HN.out; rw [List.take_length] at this; rw [this]; rfl⟩, rfl⟩

set_option maxRecDepth 100000 in
theorem contains_any (q : Nat → Bool) (l : List Nat) (hl : l.length ≤ 1000) (pb : Nat) (b cap : Nat) (w : World) (hu : U8At w b 0 l)
    (hcall : ∀ c ∈ l, Calls Tryd.prog 88 #[.int .u8 ((97 + c : Nat) : Int), .pointer (some ⟨pb, 0, none⟩)] w fun e w' => e = .returned (.bool (q c)) ∧ w' = w) :
    Calls Tryd.prog 87 #[.slice (some ⟨b, 0, none⟩) l.length cap, .func (.func 88) #[] #[.pointer (some ⟨pb, 0, none⟩)]] w fun e w' => e = .returned (.bool (l.any q)) ∧ w' = w := by
  have HI := Lib.hid (index_any q l hl pb b cap w hu hcall)
  clear hu hcall
  go_enter Tryd.func87, Tryd.ntmps87
  go_wp2_with fail
  refine HI.out.mono ?_
  rintro e w1 ⟨⟨r, rfl, hr⟩, rfl⟩
  have HR := Lib.hid hr
  clear hr
  go_wp2_with fail
  go_ret
  exact ⟨by rw [← HR.out]; rfl, rfl⟩

def budV (V : List (List Nat)) (i : Nat) : Bool := decide (2 ≤ (part V i).length) && decide (at0 (part V i) 0 = i) && (part V i).tail.any (kindP V)
theorem str_tail (p : List Nat) : (str p).extract 1 p.length = str p.tail := by
  apply ByteArray.ext
  apply Array.ext'
  show _ = List.map chr p.tail
  rw [Lib.extract_data]
  cases p with
  | nil => rfl
  | cons a p => simp [str, List.take_of_length_le]

theorem str_zero {p : List Nat} (h0 : 0 < p.length) (hc : p[0] < 100) (h : 0 < (str p).size) : ((str p)[0]'h).toNat = 97 + p[0] := by
  cases p with
  | nil => simp at h0
  | cons a r =>
    show (chr a).toNat = 97 + a
    have hc' : a < 100 := hc
    unfold chr
    simp
    omega

set_option maxRecDepth 100000 in
set_option maxHeartbeats 1000000 in
theorem bud_any (V : List (List Nat)) (hV : WF V) (i : Nat) (hi : i < V.length) (b off cap : Nat) (w : World) (hv : VAt w b off V) :
    Calls Tryd.prog 66 #[.slice (some ⟨b, off, none⟩) V.length cap, .int .i64 (i : Int)] w fun e w' => e = .returned (.bool (budV V i)) ∧ Chg (fun _ => False) w w' := by
  have hn6 := hV.le
  have c0 := hv i hi
  rw [← part_lt hi] at c0
  have hp8 := (hV.part_le i).1
  have HP := Lib.hid (hV.part_le i).2
  have HB := Lib.hid (show budV V i = (decide (2 ≤ (part V i).length) && decide (at0 (part V i) 0 = i) && (part V i).tail.any (kindP V)) from rfl)
  have HN := Lib.hid (nature_any V hV b off cap w hv)
  have HWF := Lib.hid hV
  obtain ⟨p, hp⟩ : ∃ p, part V i = p := ⟨_, rfl⟩
  rw [hp] at c0 hp8 HP HB
  clear hp hv hV
  have hsz := str_size p
  by_cases h2 : p.length < 2
  · have HBF := Lib.hid (show budV V i = false by rw [HB.out, decide_eq_false (by omega)]; rfl)
    go_enter Tryd.func66, Tryd.ntmps66
    go_wp2_with fail
    go_ret
    exact ⟨by rw [HBF.out]; rfl, Chg.refl _ _⟩
  · have h0 : 0 < p.length := by omega
    have hcn := HP.out _ (List.getElem_mem h0)
    have h00 : ∀ h, ((str p)[0]'h).toNat = 97 + p[0] := fun h => str_zero h0 (by omega) h
    have HA0 := Lib.hid (at0_lt_of h0)
    obtain ⟨c, hc⟩ : ∃ c, p[0] = c := ⟨_, rfl⟩
    rw [hc] at hcn HA0
    simp only [hc] at h00
    have hmod : (((97 + c : Nat) : Int) - 97) % 256 = (c : Int) := by omega
    obtain ⟨C, hC⟩ : ∃ C, 97 + c = C := ⟨_, rfl⟩
    rw [hC] at hmod
    simp only [hC] at h00
    have d2 : decide ((p.length : Int) < 2) = false := by simp; omega
    clear hc hC
    rw [HA0.out, decide_eq_true (show 2 ≤ p.length by omega)] at HB
    by_cases hci : c = i
    · rw [decide_eq_true hci] at HB
      subst hci
      go_enter Tryd.func66, Tryd.ntmps66
      go_wp2_with fail
      refine HN.out.mono ?_
      rintro e w1 ⟨kb, sb, rfl, hk, hs, hc2⟩
      have HK := Lib.hid hk; have HC2 := Lib.hid hc2
      clear hk hs hc2
      have HPT := Lib.hid (fun d (hd : d ∈ p.tail) => HP.out d (List.mem_of_mem_tail hd))
      obtain ⟨pb, hpb⟩ : ∃ pb, w1.heap.size = pb := ⟨_, rfl⟩
      have HKC := Lib.hid ((Blk.new w1 #[.slice (some ⟨kb, 0, none⟩) V.length V.length] 29).cell_some (i := 0) rfl)
      have HCA := Lib.hid ((Chg.refl (fun _ => False) w1).alloc (.cells #[.slice (some ⟨kb, 0, none⟩) V.length V.length] 29))
      rw [hpb] at HKC
      obtain ⟨cc, w9, hcv, hby, hc9, hsz9⟩ := conv_bytes p.tail (fun d hd => by have := HPT.out d hd; omega) (w1.alloc (.cells #[.slice (some ⟨kb, 0, none⟩) V.length V.length] 29))
      rw [← str_tail] at hcv
      obtain ⟨qb, hqb⟩ : ∃ qb, (w1.alloc (.cells #[.slice (some ⟨kb, 0, none⟩) V.length V.length] 29)).heap.size = qb := ⟨_, rfl⟩
      rw [hqb] at hcv hby
      have HCN := Lib.hid (contains_any (kindP V) p.tail (by rw [List.length_tail]; omega) pb qb cc w9 (fun k h => by rw [Nat.zero_add]; exact hby k h) (fun d hd => lit_any V HWF.out d (HPT.out d hd) pb kb V.length w9 (hc9.cell_some HKC.out (fun x => x)) ((HK.out.chg HCA.out (fun x => x)).chg hc9 (fun x => x))))
      have HC9 := Lib.hid ((HC2.out.trans HCA.out (fun _ x => x.elim)).trans hc9 (fun _ x => x.elim))
      obtain ⟨L, hL⟩ : ∃ L, p.tail.length = L := ⟨_, rfl⟩
      rw [hL] at HCN hcv
      clear hby hsz9 hc9 hqb hL
      go_wp2_with fail
      refine HCN.out.mono ?_
      rintro e w2 ⟨rfl, rfl⟩
      go_wp2_with fail
      go_ret
      exact ⟨by rw [HB.out]; simp, HC9.out⟩
    · rw [decide_eq_false hci] at HB
      have hci' : ¬ (c : Int) = (i : Int) := by omega
      have HBF := Lib.hid (show budV V i = false from HB.out)
      go_enter Tryd.func66, Tryd.ntmps66
      go_wp2_with fail
      go_ret
      exact ⟨by rw [HBF.out]; rfl, Chg.refl _ _⟩
end Go.Proofs.YtilacamhjibneaaDoor
