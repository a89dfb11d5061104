/- Can one go from a post to another one, walked. Its conditions are its premises. -/
import Derived.Test.YtmmpdfcnenljhaaF26
set_option linter.unusedVariables false
namespace Go.Proofs.Ytmmpdfcnenljhaa
open Go.RowKit

theorem info4 : (Try.prog.info? 4).map (fun i => (i.zero, i.size, i.bytes)) = some (some (.bool false), 1, 1) := by kernel_rfl
theorem make_bools (N : Nat) (hN : N ≤ 1000) (w : World) : (Instr.makeSlice 105 (.int .i64 N) (.int .i64 N)).run Try.prog w = .ok (.slice (some ⟨w.heap.size, 0, none⟩) N N) (w.alloc (.cells (Array.replicate N (.bool false)) 4)) := by
  obtain ⟨i0, hi0, hz0, hz1, hz2⟩ := info_parts info4
  have := run_make (P := Try.prog) w 105 4 i0 _ Try.underlying105 hi0 hz0 .i64 .i64 N N (by omega) (by omega) (by rw [hz2]; omega) (by omega)
  rw [this, hz1, Nat.mul_one, show (Value.bool false).cells = #[Value.bool false] from rfl, madeCells_one]
  rfl
theorem made_bools (N : Nat) (w : World) : Blk (w.alloc (.cells (Array.replicate N (.bool false)) 4)) w.heap.size 4 ((List.replicate N false).map Value.bool) := by
  have := Blk.new w (Array.replicate N (.bool false)) 4
  simpa using this
def br (B : List Bool) (i : Nat) : Bool := B.getD i false
theorem br_lt {B : List Bool} {i : Nat} (h : i < B.length) : B[i]? = some (br B i) := by unfold br; rw [List.getD_eq_getElem?_getD, List.getElem?_eq_getElem h]; rfl
theorem br_set {B : List Bool} {i j : Nat} {x : Bool} (hi : i < B.length) : br (B.set i x) j = if i = j then x else br B j := by
  unfold br
  rw [List.getD_eq_getElem?_getD, List.getElem?_set]
  by_cases h : i = j
  · rw [if_pos h, if_pos h, if_pos (by omega)]; rfl
  · rw [if_neg h, if_neg h, List.getD_eq_getElem?_getD]
theorem bool_at {w : World} {g : Nat} {e : TypeId} {B : List Bool} (h : Blk w g e (B.map Value.bool)) {i : Nat} (hi : i < B.length) : w.cell? ⟨g, i, none⟩ = some (.bool (br B i)) :=
  h.cell_some (by rw [List.getElem?_map, br_lt hi]; rfl)
theorem bool_set {w : World} {g : Nat} {e : TypeId} {B : List Bool} (h : Blk w g e (B.map Value.bool)) (i : Nat) (x : Bool) : Blk (w.setCell ⟨g, i, none⟩ (.bool x)) g e ((B.set i x).map Value.bool) := by
  rw [List.map_set]
  exact h.set i _
/-- How many are not reached. -/
def nf : List Bool → Nat
  | [] => 0
  | true :: r => nf r
  | false :: r => nf r + 1
theorem nf_set : ∀ (B : List Bool) (i : Nat), B[i]? = some false → nf (B.set i true) + 1 = nf B
  | [], i, h => by simp at h
  | x :: r, 0, h => by
    simp at h
    subst h
    rfl
  | x :: r, i + 1, h => by
    have ih := nf_set r i (by simpa using h)
    cases x
    · rw [List.set_cons_succ, nf, nf]; omega
    · rw [List.set_cons_succ, nf, nf]; exact ih

/-- What has been reached so far. -/
structure Inr (E : List Fe) (u : Int) (N : Nat) (B : List Bool) : Prop where
  len : B.length = N
  start : br B u.toNat = true
  ok : ∀ x : Nat, x < N → br B x = true → Rch E u x
theorem Inr.put {E : List Fe} {u : Int} {N : Nat} {B : List Bool} (h : Inr E u N B) {o : Fe} (ho : o ∈ E) (h0 : 0 ≤ o.a) (h1 : o.a < N) (h2 : 0 ≤ o.b) (h3 : o.b < N) (ha : br B o.a.toNat = true) : Inr E u N (B.set o.b.toNat true) := by
  refine ⟨by rw [List.length_set]; exact h.len, ?_, fun x hx hb => ?_⟩
  · rw [br_set (by rw [h.len]; omega)]
    split
    · rfl
    · exact h.start
  · rw [br_set (by rw [h.len]; omega)] at hb
    by_cases hxb : o.b.toNat = x
    · have := h.ok o.a.toNat (by omega) ha
      rw [Int.toNat_of_nonneg h0] at this
      rw [← hxb, Int.toNat_of_nonneg h2]
      exact this.step ho
    · rw [if_neg hxb] at hb
      exact h.ok x hx hb
/-- Nothing more can be reached. -/
theorem Inr.fin {E : List Fe} {u v : Int} {N : Nat} {B : List Bool} (h : Inr E u N B) (hE : ∀ o ∈ E, 0 ≤ o.a ∧ o.a < N ∧ 0 ≤ o.b ∧ o.b < N) (hv0 : 0 ≤ v) (hv : v < N)
    (hc : ∀ o ∈ E, br B o.a.toNat = true → br B o.b.toNat = true) : br B v.toNat = true ↔ Rch E u v := by
  constructor
  · intro hb
    have := h.ok v.toNat (by omega) hb
    rwa [Int.toNat_of_nonneg hv0] at this
  · intro hr
    exact hr (fun z => br B z.toNat = true) h.start fun o ho hz => hc o ho hz
theorem orient_mem {N : Nat} {l : List Fe} (hv : Valid N l) (S : Nat) : ∀ o ∈ orient l S, 0 ≤ o.a ∧ o.a < N ∧ 0 ≤ o.b ∧ o.b < N := fun o ho => by
  obtain ⟨i, hi, rfl⟩ := List.getElem_of_mem ho
  rw [orient_len] at hi
  have h := orient_get l S i hi
  have h2 : (orient l S)[i] = if S.testBit i then l[i].flip else l[i] := by
    rw [List.getElem?_eq_getElem (by rw [orient_len]; exact hi)] at h
    exact Option.some.inj h
  have hok := hv.ok _ (List.getElem_mem hi)
  rw [h2]
  split
  · exact ⟨hok.2.2.1, hok.2.2.2, hok.1, hok.2.1⟩
  · exact hok
theorem orient_in {l : List Fe} {S i : Nat} (hi : i < l.length) {o : Fe} (h : (if S.testBit i then l[i].flip else l[i]) = o) : o ∈ orient l S := by
  have := orient_get l S i hi
  rw [h] at this
  exact List.mem_of_getElem? this

/-- The first i fences lead nowhere new. -/
def ClosedTo (l : List Fe) (S : Nat) (B : List Bool) (i : Nat) : Prop := ∀ (j : Nat) (h : j < l.length), j < i → ∀ o : Fe, (if S.testBit j then l[j].flip else l[j]) = o → br B o.a.toNat = true → br B o.b.toNat = true
theorem ClosedTo.all {l : List Fe} {S : Nat} {B : List Bool} {i : Nat} (h : ClosedTo l S B i) (hi : l.length ≤ i) : ∀ o ∈ orient l S, br B o.a.toNat = true → br B o.b.toNat = true := fun o ho => by
  obtain ⟨j, hj, rfl⟩ := List.getElem_of_mem ho
  rw [orient_len] at hj
  refine h j hj (by omega) _ ?_
  have h := orient_get l S j hj
  rw [List.getElem?_eq_getElem (by rw [orient_len]; exact hj)] at h
  exact (Option.some.inj h).symm

set_option maxRecDepth 100000 in
set_option maxHeartbeats 4000000 in
theorem reaches_any (N : Nat) (l : List Fe) (a : Option Addr) (cap b off S : Nat) (u v : Int) (w : World) (hv : Valid N l) (hs : FencesAt w b off l) (ha : l = [] ∨ a = some ⟨b, off, none⟩) (hS : S < 2 ^ 62)
    (u0 : 0 ≤ u) (u1 : u < N) (v0 : 0 ≤ v) (v1 : v < N) :
    Calls Try.prog 43 #[.int .i64 N, .slice a l.length cap, .int .i64 S, .int .i64 u, .int .i64 v] w (BPost (Rch (orient l S) u v) w) := by
  obtain ⟨U, rfl⟩ := Int.eq_ofNat_of_zero_le u0
  obtain ⟨V, rfl⟩ := Int.eq_ofNat_of_zero_le v0
  have HS := Lib.hid hs; have HA := Lib.hid ha; have HV := Lib.hid hv; have HSB := Lib.hid hS
  have hn2 := hv.n2; have hn1 := hv.n1; have hl14 := hv.len
  have hmk := make_bools N (by omega)
  obtain ⟨Bg, hBg⟩ : ∃ Bg, w.heap.size = Bg := ⟨_, rfl⟩
  have HB := Lib.hid (made_bools N w)
  have HCW := Lib.hid ((Chg.refl (fun _ => False) w).alloc (.cells (Array.replicate N (.bool false)) 4))
  rw [hBg] at HB
  have hbl := HB.out.lt
  have hcu := HB.out.cell_some (i := U) (v := .bool false) (by rw [List.getElem?_map, List.getElem?_replicate, if_pos (by omega)]; rfl)
  have hfu := HB.out.free U
  have hUN : U < N := by omega
  have hVN : V < N := by omega
  clear hs ha hv hS u0 u1 v0 v1
  go_enter Try.func43, Try.ntmps43
  go_wp2_with fail
  have HZ := Lib.hid (show w.heap.size ≤ Bg by omega)
  have HB1 : Hid (Blk (w.alloc (.cells ((Array.replicate N (.bool false)).setIfInBounds U (.bool true)) 4)) Bg 4 (((List.replicate N false).set U true).map Value.bool)) := Lib.hid (by
    have h := Blk.new w ((Array.replicate N (.bool false)).setIfInBounds U (.bool true)) 4
    rw [hBg] at h
    simpa [List.map_set] using h)
  have HC1 := Lib.hid ((Chg.refl (fun _ => False) w).alloc (.cells ((Array.replicate N (.bool false)).setIfInBounds U (.bool true)) 4))
  have HI1 : Hid (Inr (orient l S) U N ((List.replicate N false).set U true)) := Lib.hid (by
    refine ⟨by simp, ?_, fun x hx hb => ?_⟩
    · rw [Int.toNat_natCast, br_set (by simpa using hUN), if_pos rfl]
    · rw [br_set (by simpa using hUN)] at hb
      by_cases h : U = x
      · subst h; exact Rch.refl _ _
      · rw [if_neg h] at hb
        unfold br at hb
        rw [List.getD_eq_getElem?_getD, List.getElem?_replicate] at hb
        split at hb <;> simp at hb)
  generalize w.alloc (.cells ((Array.replicate N (.bool false)).setIfInBounds U (.bool true)) 4) = W1 at HB1 HC1 ⊢
  clear hBg hmk hcu hfu hbl HB HCW
  generalize (List.replicate N false).set U true = B1 at HB1 HI1
  go_loopg [12] (nf B1 + 1) (fun gm av wr => ∃ (again : Bool) (B : List Bool), gm = (if again then nf B + 1 else 0) ∧ av = .bool again ∧ Blk wr Bg 4 (B.map Value.bool) ∧ Inr (orient l S) U N B ∧ (again = false → ClosedTo l S B l.length) ∧ Chg (fun _ => False) w wr)
  case atStart => exact ⟨true, B1, rfl, rfl, HB1.out, HI1.out, (fun h => by cases h), HC1.out⟩
  case round =>
    clear HB1 HI1 HC1
    obtain ⟨again, B0, rfl, rfl, hB, hI, hcl, hcg⟩ := hrel
    have HB := Lib.hid hB; have HI := Lib.hid hI; have HCL := Lib.hid hcl; have HCG := Lib.hid hcg
    clear hB hI hcl hcg
    cases again with
    | false =>
      have hcv := bool_at HB.out (i := V) (by rw [HI.out.len]; exact hVN)
      have HF := Lib.hid (HI.out.fin (orient_mem HV.out S) (v := V) (by omega) (by omega) ((HCL.out rfl).all (Nat.le_refl _)))
      obtain ⟨bv, hbv⟩ : ∃ bv, br B0 V = bv := ⟨_, rfl⟩
      have hlen := HI.out.len
      have HLEN := Lib.hid hlen
      clear hlen
      rw [hbv] at hcv
      have HBV := Lib.hid hbv
      clear hbv
      go_wp2_with fail
      go_ret
      exact ⟨bv, rfl, by rw [← HBV.out]; exact HF.out, HCG.out⟩
    | true =>
      go_wp2_with fail
      go_loopg [13, 12] l.length (fun gm iv av wr => ∃ (i : Nat) (ag : Bool) (B : List Bool), i ≤ l.length ∧ gm = l.length - i ∧ iv = .int .i64 i ∧ av = .bool ag ∧ Blk wr Bg 4 (B.map Value.bool) ∧ Inr (orient l S) U N B ∧ (ag = false → B = B0 ∧ ClosedTo l S B i) ∧ (ag = true → nf B < nf B0) ∧ Chg (fun _ => False) w wr)
      case atStart => exact ⟨0, false, B0, by omega, by omega, rfl, rfl, HB.out, HI.out, fun _ => ⟨rfl, fun j h hj => by omega⟩, (fun h => by cases h), HCG.out⟩
      case round =>
        clear HB HI HCL HCG
        obtain ⟨i, ag, B, hi, rfl, rfl, rfl, hB, hI, hf, ht, hcg⟩ := hrel
        have HB := Lib.hid hB; have HI := Lib.hid hI; have HF := Lib.hid hf; have HT := Lib.hid ht; have HCG := Lib.hid hcg
        clear hB hI hf ht hcg
        by_cases hlt : i < l.length
        · have hne : a = some ⟨b, off, none⟩ := HA.out.resolve_left (by intro h; simp [h] at hlt)
          subst hne
          obtain ⟨c0, c1⟩ := HS.out.chg HCG.out (fun x => x) i hlt
          have hok := HV.out.ok _ (List.getElem_mem hlt)
          have HOR : Hid (∀ o, (if S.testBit i then l[i].flip else l[i]) = o → o ∈ orient l S) := Lib.hid fun o ho => orient_in hlt ho
          have HNX : Hid (∀ B', ClosedTo l S B' i → (∀ o, (if S.testBit i then l[i].flip else l[i]) = o → br B' o.a.toNat = true → br B' o.b.toNat = true) → ClosedTo l S B' (i + 1)) := Lib.hid fun B' h1 h2 j hj hji o ho => by
            rcases Nat.lt_succ_iff_lt_or_eq.1 hji with h | rfl
            · exact h1 j hj h o ho
            · exact h2 o ho
          obtain ⟨s, hs⟩ : ∃ s, l[i] = s := ⟨_, rfl⟩
          rw [hs] at c0 c1 hok
          simp only [hs] at HOR HNX
          clear hs
          obtain ⟨o1, o2, o3, o4⟩ := hok
          have hlenB := HI.out.len
          have HLB := Lib.hid hlenB
          clear hlenB
          obtain ⟨bt, hbt⟩ : ∃ bt, S.testBit i = bt := ⟨_, rfl⟩
          have dbit := bit_one hbt
          rw [hbt] at HOR HNX
          clear hbt
          go_wp2_with fail
          go_quiet (fail)
          clear c0 c1
          have HB2 := Lib.hid (HB.out.drewN nq); have HCG2 := Lib.hid (HCG.out.drewN nq)
          generalize wr.drewN nq = W2 at HB2 HCG2 ⊢
          clear HB HCG
          have hbl := HB2.out.lt
          cases bt with
          | false =>
            have HOR2 := Lib.hid (HOR.out s rfl); have HNX2 := Lib.hid (fun B' h1 (h2 : br B' s.a.toNat = true → br B' s.b.toNat = true) => HNX.out B' h1 (fun oo ho => by have ho' : s = oo := ho; subst ho'; exact h2))
            clear HOR HNX
            have gx := bool_at HB2.out (i := s.a.toNat) (by rw [HLB.out]; omega)
            have gy := bool_at HB2.out (i := s.b.toNat) (by rw [HLB.out]; omega)
            have gf := HB2.out.free s.b.toNat
            obtain ⟨bx, hbx⟩ : ∃ bx, br B s.a.toNat = bx := ⟨_, rfl⟩
            obtain ⟨byy, hby⟩ : ∃ byy, br B s.b.toNat = byy := ⟨_, rfl⟩
            rw [hbx] at gx
            rw [hby] at gy
            have HBX := Lib.hid hbx; have HBY := Lib.hid hby
            clear hbx hby
            cases bx with
            | false =>
              go_wp2_with fail
              go_roundg (l.length - (i + 1))
              case measure => omega
              case rel => exact ⟨i + 1, ag, B, by omega, rfl, by go_num, rfl, HB2.out, HI.out, fun h => ⟨(HF.out h).1, HNX2.out B (HF.out h).2 (fun hk => by rw [HBX.out] at hk; cases hk)⟩, HT.out, HCG2.out⟩
            | true =>
              cases byy with
              | true =>
                go_wp2_with fail
                go_roundg (l.length - (i + 1))
                case measure => omega
                case rel => exact ⟨i + 1, ag, B, by omega, rfl, by go_num, rfl, HB2.out, HI.out, fun h => ⟨(HF.out h).1, HNX2.out B (HF.out h).2 (fun hk => HBY.out)⟩, HT.out, HCG2.out⟩
              | false =>
                have HNF := Lib.hid (nf_set B s.b.toNat (by rw [br_lt (by rw [HLB.out]; omega), HBY.out]))
                have HIP := Lib.hid (HI.out.put (o := s) HOR2.out (by first | exact o1 | exact o3) (by first | exact o2 | exact o4) (by first | exact o3 | exact o1) (by first | exact o4 | exact o2) HBX.out)
                go_wp2_with fail
                go_roundg (l.length - (i + 1))
                case measure => omega
                case rel =>
                  refine ⟨i + 1, true, B.set s.b.toNat true, by omega, rfl, by go_num, rfl, bool_set HB2.out _ true, HIP.out, (fun h => by cases h), fun _ => ?_, HCG2.out.setCell (.inr HZ.out) _⟩
                  have := HNF.out
                  cases ag with
                  | false => rw [(HF.out rfl).1] at this ⊢; omega
                  | true => have := HT.out rfl; omega
          | true =>
            have HOR2 := Lib.hid (HOR.out s.flip rfl); have HNX2 := Lib.hid (fun B' h1 (h2 : br B' s.b.toNat = true → br B' s.a.toNat = true) => HNX.out B' h1 (fun oo ho => by have ho' : s.flip = oo := ho; subst ho'; exact h2))
            clear HOR HNX
            have gx := bool_at HB2.out (i := s.b.toNat) (by rw [HLB.out]; omega)
            have gy := bool_at HB2.out (i := s.a.toNat) (by rw [HLB.out]; omega)
            have gf := HB2.out.free s.a.toNat
            obtain ⟨bx, hbx⟩ : ∃ bx, br B s.b.toNat = bx := ⟨_, rfl⟩
            obtain ⟨byy, hby⟩ : ∃ byy, br B s.a.toNat = byy := ⟨_, rfl⟩
            rw [hbx] at gx
            rw [hby] at gy
            have HBX := Lib.hid hbx; have HBY := Lib.hid hby
            clear hbx hby
            cases bx with
            | false =>
              go_wp2_with fail
              go_roundg (l.length - (i + 1))
              case measure => omega
              case rel => exact ⟨i + 1, ag, B, by omega, rfl, by go_num, rfl, HB2.out, HI.out, fun h => ⟨(HF.out h).1, HNX2.out B (HF.out h).2 (fun hk => by rw [HBX.out] at hk; cases hk)⟩, HT.out, HCG2.out⟩
            | true =>
              cases byy with
              | true =>
                go_wp2_with fail
                go_roundg (l.length - (i + 1))
                case measure => omega
                case rel => exact ⟨i + 1, ag, B, by omega, rfl, by go_num, rfl, HB2.out, HI.out, fun h => ⟨(HF.out h).1, HNX2.out B (HF.out h).2 (fun hk => HBY.out)⟩, HT.out, HCG2.out⟩
              | false =>
                have HNF := Lib.hid (nf_set B s.a.toNat (by rw [br_lt (by rw [HLB.out]; omega), HBY.out]))
                have HIP := Lib.hid (HI.out.put (o := s.flip) HOR2.out (by first | exact o1 | exact o3) (by first | exact o2 | exact o4) (by first | exact o3 | exact o1) (by first | exact o4 | exact o2) HBX.out)
                go_wp2_with fail
                go_roundg (l.length - (i + 1))
                case measure => omega
                case rel =>
                  refine ⟨i + 1, true, B.set s.a.toNat true, by omega, rfl, by go_num, rfl, bool_set HB2.out _ true, HIP.out, (fun h => by cases h), fun _ => ?_, HCG2.out.setCell (.inr HZ.out) _⟩
                  have := HNF.out
                  cases ag with
                  | false => rw [(HF.out rfl).1] at this ⊢; omega
                  | true => have := HT.out rfl; omega
        · have hil : i = l.length := by omega
          subst hil
          cases ag with
          | false =>
            obtain ⟨rfl, hct⟩ := HF.out rfl
            have HCT := Lib.hid hct
            clear hct
            go_wp2_with fail
            go_roundg 0
            case measure => simp
            case rel => exact ⟨false, B, rfl, rfl, HB.out, HI.out, fun _ => HCT.out, HCG.out⟩
          | true =>
            have hnf := HT.out rfl
            go_wp2_with fail
            go_roundg (nf B + 1)
            case measure => simp; omega
            case rel => exact ⟨true, B, rfl, rfl, HB.out, HI.out, (fun h => by cases h), HCG.out⟩
end Go.Proofs.Ytmmpdfcnenljhaa
