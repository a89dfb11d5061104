/- The search for an orphan, walked. Its conditions are its premises. -/
import Derived.Test.YtdopmafhdhahiaaDoorW10
set_option linter.unusedVariables false
namespace Go.Proofs.YtdopmafhdhahiaaDoor
open Go.RowKit Go.Maps

def orphR : Option (List Nat) → Value
  | some l => .tuple #[.string (txt l), .bool true]
  | none => .tuple #[.string ⟨#[]⟩, .bool false]
def mostO (most : Int) : Option Nat := if 0 ≤ most then some most.toNat else none

theorem info50 : (Tryd.prog.info? 50).map (fun i => (i.zero, i.size, i.bytes)) = some (some (.agg #[.int .i64 0, .string ⟨#[]⟩]), 2, 24) := by kernel_rfl

/-- What lies in memory: i sets have been looked at, all of fs have been found. -/
structure OMem (w0 w : World) (mb i g o c : Nat) (fs : List Fd) : Prop where
  le : i ≤ fs.length
  fnd : Fnd fs
  que : QueB w 2 g o c (fs.length - i) (quCells (fs.drop i))
  seen : Seen w mb (fs.map (·.1))
  old : w0.heap.size ≤ g
  apart : g ≠ mb
  mold : w0.heap.size ≤ mb
  chg : Chg (fun _ => False) w0 w

theorem OMem.kept {w0 w w' : World} {mb i g o c : Nat} {fs : List Fd} (h : OMem w0 w mb i g o c fs) (hc : Chg (fun _ => False) w w') : OMem w0 w' mb i g o c fs :=
  ⟨h.le, h.fnd, h.que.chg hc (fun x => x), h.seen.chg hc (fun x => x), h.old, h.apart, h.mold, h.chg.trans hc (fun _ x => x.elim)⟩

theorem OMem.tail {w0 w : World} {mb i g o c : Nat} {fs : List Fd} (h : OMem w0 w mb i g o c fs) (hlt : i < fs.length) : OMem w0 w mb (i + 1) g (if c = 1 then o else o + 2) (c - 1) fs := by
  refine ⟨hlt, h.fnd, ?_, h.seen, h.old, h.apart, h.mold, h.chg⟩
  have hq := h.que
  rw [show fs.length - i = (fs.length - (i + 1)) + 1 by omega, List.drop_eq_getElem_cons hlt] at hq
  exact hq.tail

theorem OMem.push {w0 w3 w4 w6 : World} {mb i g o c g6 o6 c6 : Nat} {fs : List Fd} {q : Fd} (h : OMem w0 w3 mb i g o c fs) (hc4 : Chg (fun k => k = mb) w3 w4) (hs4 : Seen w4 mb (fs.map (·.1) ++ [q.1])) (hall : Chg (fun k => k = g) w4 w6)
    (hq : QueB w6 2 g6 o6 c6 (fs.length - i + 1) (quCells (fs.drop i) ++ fdCells q)) (hg6 : g6 = g ∨ w4.heap.size ≤ g6) (hF : Fnd (fs ++ [q])) : OMem w0 w6 mb i g6 o6 c6 (fs ++ [q]) := by
  have hle := h.le
  have h1 := h.chg.size
  have h2 := hc4.size
  have h3 := h.seen.lt
  refine ⟨by simp; omega, hF, ?_, ?_, ?_, ?_, h.mold, ?_⟩
  · rw [List.drop_append_of_le_length hle, quCells_snoc, List.length_append, List.length_singleton, show fs.length + 1 - i = fs.length - i + 1 by omega]
    exact hq
  · rw [List.map_append]
    exact hs4.chg hall (fun e => h.apart e.symm)
  · have := h.old
    rcases hg6 with rfl | hg6 <;> omega
  · have := h.apart
    rcases hg6 with rfl | hg6
    · exact this
    · omega
  · exact (h.chg.trans hc4 (fun k hk => .inr (by have := h.mold; omega))).trans hall (fun k hk => .inr (by have := h.old; omega))

theorem _root_.Go.QueB.of_blk {w : World} {g n : Nat} {e : TypeId} {vals : List Value} (h : Blk w g e vals) (size : Nat) (hn : vals.length = n * size) : QueB w size g 0 n n vals :=
  ⟨h.lt, Nat.le_refl _, hn, fun j u hj => by rw [Nat.zero_add]; exact h.cell_some hj, fun j hj => by rw [Nat.zero_add, h.cell, List.getElem?_eq_getElem (by omega)]; rfl, fun j => h.free j⟩

theorem OMem.start {w0 W : World} {mb b0 : Nat} (hQ : Blk W b0 50 [.int .i64 15, .string ⟨#[]⟩]) (hS : Seen W mb [15]) (hC : Chg (fun _ => False) w0 W) (h1 : w0.heap.size ≤ b0) (h2 : b0 ≠ mb) (h3 : w0.heap.size ≤ mb) : OMem w0 W mb 0 b0 0 1 [(15, [])] :=
  ⟨by simp, Fnd.start, QueB.of_blk hQ 2 rfl, hS, h1, h2, h3, hC⟩

theorem slice_que (w : World) (g o N c : Nat) (hN : 0 < N) : (Instr.sliceAt 51 (.slice (some ⟨g, o, none⟩) N c) (some (.int .i64 1)) none none).run Tryd.prog w = .ok (.slice (some ⟨g, if c = 1 then o else o + 2, none⟩) (N - 1) (c - 1)) w := by
  obtain ⟨i0, hi0, hz0, hz1, hz2⟩ := info_parts info50
  have he : Tryd.prog.elem 51 = 50 := by kernel_rfl
  have hu : Tryd.prog.underlying 51 = some (.slice (Tryd.prog.elem 51)) := by rw [he]; exact Tryd.underlying51
  rw [run_sliceAt_slice w 51 _ _ _ _ hu, run_slice_l w 51 _ N c hu .i64 1 (by omega) (by omega), he]
  simp [sizeOf, typeInfo, hi0, hz1, sliced, Result.andThen]
  by_cases hc : c = 1
  · rw [if_pos hc, if_pos hc]
  · rw [if_neg hc, if_neg hc]
    simp [add_plain]

theorem txt_size (l : List Nat) : (txt l).size = l.length := by
  show (bytes l).toArray.size = _
  simp [bytes]

theorem cat_snoc (l : List Nat) (x : Nat) (h : l.length ≤ 1000) : Op.stringOp .add (txt l) (txt [x]) = pure (.string (txt (l ++ [x]))) := by
  have h1 : ¬ (((txt l).size + (txt [x]).size : Nat) : Int) > IntKind.i64.max := by
    rw [txt_size, txt_size]
    have : IntKind.i64.max = 9223372036854775807 := by decide
    rw [this]
    simp
    omega
  unfold Op.stringOp
  simp only [if_neg h1, txt_snoc]

theorem nats_new (w : World) (x : Nat) : NatsAt (w.alloc (.cells #[.int .i64 (x : Int)] 3)) w.heap.size 0 [x] := fun k hk => by
  simp at hk
  subst hk
  exact (Blk.new w #[.int .i64 (x : Int)] 3).cell_some rfl

theorem mostO_some {most : Int} {n : Nat} : mostO most = some n ↔ 0 ≤ most ∧ most = n := by
  unfold mostO
  split
  · simp; omega
  · simp; omega

/-- What the region that makes a new entry keeps. -/
def SK (w4 : World) (ab g : Nat) (v : Value) (w' : World) : Prop := w'.cell? ⟨ab, 1, none⟩ = some v ∧ Chg (fun k => k = g) w4 w'
theorem SK.start {w4 : World} {ab g : Nat} {v : Value} (h : w4.cell? ⟨ab, 1, none⟩ = some v) : SK w4 ab g v w4.drew := ⟨h, (Chg.refl _ _).drew⟩
theorem SK.alloc {w4 w' : World} {ab g : Nat} {v : Value} (h : SK w4 ab g v w') (o : Obj) : SK w4 ab g v (w'.alloc o) := ⟨((Chg.refl (fun _ => False) w').alloc o).cell_some h.1 (fun x => x), h.2.alloc o⟩
theorem SK.same {w4 w' w'' : World} {ab g : Nat} {v : Value} (h : SK w4 ab g v w') (hc : Chg (fun _ => False) w' w'') : SK w4 ab g v w'' := ⟨hc.cell_some h.1 (fun x => x), h.2.trans hc (fun _ x => x.elim)⟩
theorem SK.put {w4 w' w'' : World} {ab g : Nat} {v : Value} (h : SK w4 ab g v w') (hc : Chg (fun k => k = g) w' w'') (hn : ab ≠ g) : SK w4 ab g v w'' := ⟨hc.cell_some h.1 hn, h.2.trans hc (fun _ x => .inl x)⟩

theorem pushN_old {u : Nat} {p : Fd} {fs : List Fd} {x : Nat} (h : nextV u p.1 x ∈ (pushN u p fs x).map (·.1)) : pushN u p fs (x + 1) = pushN u p fs x := by
  show pushR u p (pushN u p fs x) x = _
  unfold pushR
  rw [if_pos h]
theorem pushN_new {u : Nat} {p : Fd} {fs : List Fd} {x : Nat} (h : nextV u p.1 x ∉ (pushN u p fs x).map (·.1)) : pushN u p fs (x + 1) = pushN u p fs x ++ [(nextV u p.1 x, p.2 ++ [x])] := by
  show pushR u p (pushN u p fs x) x = _
  unfold pushR
  rw [if_neg h]
theorem pushN_len (u : Nat) (p : Fd) (fs : List Fd) : ∀ x, fs.length ≤ (pushN u p fs x).length
  | 0 => Nat.le_refl _
  | x + 1 => by
    show _ ≤ (pushR u p (pushN u p fs x) x).length
    unfold pushR
    have := pushN_len u p fs x
    split
    · exact this
    · simp; omega

set_option maxRecDepth 100000 in
set_option maxHeartbeats 1000000 in
theorem orphan_any (u : Nat) (most : Int) (hu : u < 256) (w : World) :
    Calls Tryd.prog 18 #[.int .i64 u, .int .i64 most] w fun e w' => e = .returned (orphR (orphV u (mostO most))) ∧ Chg (fun _ => False) w w' := by
  have HI0 : Hid (∃ i0, Tryd.prog.info? 50 = some i0 ∧ i0.zero = some (.agg #[.int .i64 0, .string ⟨#[]⟩]) ∧ i0.size = 2 ∧ i0.bytes = 24) := Lib.hid (by
    obtain ⟨i0, h0, h1, h2, h3⟩ := info_parts info50
    exact ⟨i0, h0, h1, h2, h3⟩)
  have hmm := @run_makeMap Tryd.prog
  obtain ⟨mb, hmb⟩ : ∃ mb, w.heap.size = mb := ⟨_, rfl⟩
  have HM0 : Hid (Seen (w.alloc (.map #[] 0)) mb []) := Lib.hid (by
    have := World.ownsMap_made (H := Unit) w Tryd.prog 45 (plainElem Tryd.prog 4)
    rw [hmb] at this
    exact this)
  have HC0 := Lib.hid ((Chg.refl (fun _ => False) w).alloc (.map #[] 0))
  have HMB := Lib.hid hmb
  obtain ⟨w1, hrun, hs1, hc1⟩ := HM0.out.put (by decide) (e := 15) (by decide)
  have HS1 := Lib.hid hs1
  have HC1 := Lib.hid (HC0.out.trans hc1 (fun k hk => .inr (by have := HMB.out; omega)))
  obtain ⟨b0, hb0⟩ : ∃ b0, w1.heap.size = b0 := ⟨_, rfl⟩
  have hQ0 := Blk.new w1 #[.int .i64 15, .string ⟨#[]⟩] 50
  rw [hb0] at hQ0
  have HQ0 := Lib.hid hQ0
  have HB0 := Lib.hid hb0
  have HC2 := Lib.hid (HC1.out.alloc (.cells #[.int .i64 15, .string ⟨#[]⟩] 50))
  have HS2 := Lib.hid (HS1.out.chg ((Chg.refl (fun _ => False) w1).alloc (.cells #[.int .i64 15, .string ⟨#[]⟩] 50)) (fun x => x))
  have hm1 : mb < w1.heap.size := hs1.lt
  clear hQ0 hs1 hc1 HM0 HC0 HS1 HC1
  change (Instr.mapUpdate 48 (.map (some mb)) (.int .i64 15) (.bool true)).run Tryd.prog (w.alloc (.map #[] 0)) = .ok () w1 at hrun
  go_enter Tryd.func18, Tryd.ntmps18
  go_wp2_with fail
  clear hb0 hmb hrun hmm
  generalize w1.alloc (.cells #[.int .i64 15, .string ⟨#[]⟩] 50) = W at HQ0 HC2 HS2 ⊢
  have hb1 : w1.heap.size = b0 := HB0.out
  have hw1 : w.heap.size = mb := HMB.out
  go_loopg [7] 17 (fun gm tv wr => ∃ (i g o c : Nat) (fs : List Fd), gm = 17 - i ∧ tv = .slice (some ⟨g, o, none⟩) (fs.length - i) c ∧ orphF u (mostO most) (17 - i) i fs = orphV u (mostO most) ∧ OMem w wr mb i g o c fs)
  case atStart => exact ⟨0, b0, 0, 1, [(15, [])], rfl, rfl, rfl, OMem.start HQ0.out HS2.out HC2.out (by omega) (by omega) (by omega)⟩
  case round =>
    clear HQ0 HS2 HC2 HB0 hb1 hm1 hw1
    obtain ⟨i, g, o, c, fs, rfl, rfl, hO, hM⟩ := hrel
    have HO := Lib.hid hO; have HMM := Lib.hid hM
    by_cases hlt : i < fs.length
    · have hlen := hM.fnd.len
      have hdrop : fs.drop i = fs[i] :: fs.drop (i + 1) := List.drop_eq_getElem_cons hlt
      obtain ⟨p, hp⟩ : ∃ p, fs[i] = p := ⟨_, rfl⟩
      rw [hp] at hdrop
      have hip : fs[i]? = some p := by rw [List.getElem?_eq_getElem hlt, hp]
      have hQ := hM.que
      rw [hdrop] at hQ
      have c0 := hQ.at_ 0 (.int .i64 (p.1 : Int)) rfl
      have c1 := hQ.at_ 1 (.string (txt p.2)) rfl
      rw [Nat.add_zero] at c0
      have hsm := hM.fnd.small p (by rw [← hp]; exact List.getElem_mem hlt)
      have hsh := hM.fnd.short i hlt
      rw [hp] at hsh
      have HFF := Lib.hid hM.fnd
      have HSM := Lib.hid hsm; have HSH := Lib.hid hsh; have HIP := Lib.hid hip
      have hO2 : orphF u (mostO most) (17 - i) i fs = if p.1 = 0 then some p.2 else if mostO most = some p.2.length then orphF u (mostO most) (17 - (i + 1)) (i + 1) fs else orphF u (mostO most) (17 - (i + 1)) (i + 1) (pushN u p fs 2) := by
        rw [show 17 - i = (17 - (i + 1)) + 1 by omega, orphF, hip]
      rw [hO] at hO2
      have HO2 := Lib.hid hO2
      obtain ⟨N, hN⟩ : ∃ N, fs.length - i = N := ⟨_, rfl⟩
      have hN0 : 0 < N := by omega
      have HN := Lib.hid hN
      have hab' : g < wr.heap.size := hM.que.lt
      have hmb' : mb < wr.heap.size := hM.seen.lt
      rw [hN]
      clear hO hO2 hdrop hip hp hsm hsh hQ hN hM
      have dn : decide ((0 : Int) < (N : Int)) = true := by simp; omega
      obtain ⟨ab, hab⟩ : ∃ ab, wr.heap.size = ab := ⟨_, rfl⟩
      have HGA := Lib.hid (show g ≠ ab by omega); have HMA := Lib.hid (show mb ≠ ab by omega)
      have hBA := Blk.new wr #[.int .i64 (p.1 : Int), .string (txt p.2)] 50
      rw [hab] at hBA
      have HBA := Lib.hid hBA
      have HM2 := Lib.hid (HMM.out.kept ((Chg.refl (fun _ => False) wr).alloc (.cells #[.int .i64 (p.1 : Int), .string (txt p.2)] 50)))
      clear hBA hab' hmb' HMM
      by_cases he : p.1 = 0
      · have hd : ((p.1 : Int) == 0) = true := by simp; omega
        have hp0 : (p.1 : Int) = 0 := by omega
        rw [if_pos he] at HO2
        clear he
        go_wp2_with fail
        go_ret2
        rw [HO2.out]
        rw [hp0] at HM2
        exact ⟨rfl, HM2.out.chg⟩
      · have hd : ((p.1 : Int) == 0) = false := by simp; omega
        rw [if_neg he] at HO2
        clear he
        have hsz := txt_size p.2
        by_cases hmo : mostO most = some p.2.length
        · rw [if_pos hmo] at HO2
          obtain ⟨h0, h1⟩ := mostO_some.1 hmo
          have d0 : decide (0 ≤ most) = true := by simpa using h0
          have d1 : ((p.2.length : Int) == most) = true := by simp; omega
          clear hmo h0 h1
          have hsl := fun w' => slice_que w' g o N c hN0
          have HT := Lib.hid (HM2.out.tail hlt)
          obtain ⟨o', ho'⟩ : ∃ o', (if c = 1 then o else o + 2) = o' := ⟨_, rfl⟩
          rw [ho'] at HT
          simp only [ho'] at hsl
          clear ho'
          go_wp2_with fail
          go_roundg (17 - (i + 1))
          case measure => omega
          case rel => exact ⟨i + 1, g, o', c - 1, fs, rfl, by rw [← HN.out]; rfl, HO2.out.symm, HT.out⟩
        · rw [if_neg hmo] at HO2
          by_cases h0 : 0 ≤ most
          · have d0 : decide (0 ≤ most) = true := by simpa using h0
            have d1 : ((p.2.length : Int) == most) = false := by
              simp
              intro h
              exact hmo (mostO_some.2 ⟨h0, h.symm⟩)
            clear hmo h0
            go_wp2_with fail
            have HM3 := HM2; have HBB := HBA
            clear HM2 HBA
            generalize wr.alloc (.cells #[.int .i64 (p.1 : Int), .string (txt p.2)] 50) = W2 at HM3 HBB ⊢
            go_loopg [37, 7] 2 (fun gm xv tv w3 => ∃ (x g' o' c' : Nat), x ≤ 2 ∧ gm = 2 - x ∧ xv = .int .i64 x ∧ tv = .slice (some ⟨g', o', none⟩) ((pushN u p fs x).length - i) c' ∧ OMem w w3 mb i g' o' c' (pushN u p fs x) ∧ g' ≠ ab ∧ Blk w3 ab 50 [.int .i64 (p.1 : Int), .string (txt p.2)])
            case atStart => exact ⟨0, g, o, c, by omega, rfl, rfl, by rw [← HN.out]; rfl, HM3.out, HGA.out, HBB.out⟩
            case round =>
              clear HM3 HBB
              obtain ⟨x, g', o', c', hx, rfl, rfl, rfl, hM, hga, hB⟩ := hrel
              have HM := Lib.hid hM; have HB := Lib.hid hB; have HG := Lib.hid hga
              clear hM hB hga
              by_cases hx2 : x < 2
              · have dx : decide ((x : Int) < 2) = true := by simp; omega
                have q0 := HB.out.cell_some (i := 0) rfl
                have q1 := HB.out.cell_some (i := 1) rfl
                have hn16 : nextV u p.1 x < 1000 := Nat.lt_trans (nextF_lt _ _ _ _) (by omega)
                have hlook := HM.out.seen.look hn16
                by_cases hin : nextV u p.1 x ∈ (pushN u p fs x).map (·.1)
                · have HPN := Lib.hid (pushN_old hin)
                  rw [show decide (nextV u p.1 x ∈ (pushN u p fs x).map (·.1)) = true by simpa using hin] at hlook
                  clear hin
                  go_wp2_with fail
                  refine (next_any u p.1 x hu HSM.out.1 hx2 _).mono ?_
                  rintro e W3 ⟨rfl, rfl⟩
                  go_wp2_with fail
                  go_roundg (2 - (x + 1))
                  case measure => omega
                  case rel => exact ⟨x + 1, g', o', c', by omega, rfl, by go_num, by rw [HPN.out], by rw [HPN.out]; exact HM.out, HG.out, HB.out⟩
                · have HPN := Lib.hid (pushN_new hin)
                  rw [show decide (nextV u p.1 x ∈ (pushN u p fs x).map (·.1)) = false by simpa using hin] at hlook
                  clear hin
                  have hfl := HM.out.fnd.len
                  obtain ⟨w4, hput, hs4, hc4⟩ := HM.out.seen.put (by simp; omega) hn16
                  have hbk : Blk w4 ab 50 [.int .i64 (p.1 : Int), .string (txt p.2)] := hc4.blk HB.out (fun e => HMA.out e.symm)
                  have hq4 : QueB w4 2 g' o' c' ((pushN u p fs x).length - i) (quCells ((pushN u p fs x).drop i)) := HM.out.que.chg hc4 HM.out.apart
                  have HS4 := Lib.hid hs4; have HC4 := Lib.hid hc4; have HQ4 := Lib.hid hq4; have HB4 := Lib.hid hbk
                  have q2 := hbk.cell_some (i := 1) rfl
                  have hs0 : SK w4 ab g' (.string (txt p.2)) w4.drew := SK.start q2
                  have hga : ab ≠ g' := fun e => HG.out e.symm
                  have HWR : Hid (∀ w' : World, Calls Tryd.prog 27 #[.slice (some ⟨w'.heap.size, 0, none⟩) 1 1] (w'.alloc (.cells #[.int .i64 (x : Int)] 3)) (fun e w'' => e = .returned (.string (txt [x])) ∧ Chg (fun _ => False) (w'.alloc (.cells #[.int .i64 (x : Int)] 3)) w'')) :=
                    Lib.hid (fun w' => written_any [x] _ 1 w'.heap.size 0 _ (nats_new w' x) (fun y hy => by simp at hy; omega) (by simp) (.inr rfl))
                  have hcat := cat_snoc p.2 x (by have := HSH.out; omega)
                  obtain ⟨E, hE⟩ : ∃ E, nextV u p.1 x = E := ⟨_, rfl⟩
                  have hcall := fun w' => next_any u p.1 x hu HSM.out.1 hx2 w'
                  simp only [hE] at hcall
                  rw [hE] at hlook hput HPN HS4
                  have HCALL := Lib.hid hcall
                  have HE := Lib.hid hE
                  obtain ⟨N', hN'⟩ : ∃ N', (pushN u p fs x).length - i = N' := ⟨_, rfl⟩
                  rw [hN'] at HQ4 ⊢
                  have HN' := Lib.hid hN'
                  clear hs4 hc4 hbk hq4 hcall hE hN' hn16
                  go_wp2_with fail
                  refine (HCALL.out _).mono ?_
                  rintro e W3 ⟨rfl, rfl⟩
                  go_wp2_with fail
                  go_region_held3 (fun w' => w'.cell? ⟨ab, 1, none⟩ = some (.string (txt p.2)) ∧ Chg (fun k => k = g') w4 w')
                    (first | exact hs0 | exact SK.alloc hs0 _ | exact SK.same (SK.alloc hs0 _) hc5 | exact SK.alloc (SK.same (SK.alloc hs0 _) hc5) _ | exact SK.put (SK.alloc (SK.same (SK.alloc hs0 _) hc5) _) hc6 hga)
                    (first
                      | (go_at_call 27; refine (HWR.out w4.drew).mono ?_; rintro e w5 ⟨rfl, hc5⟩)
                      | (refine step_append_que rfl (.tmp 51) (.tmp 60) 51 rfl 50 HI0.out.choose _ 2 24 Tryd.underlying51 HI0.out.choose_spec.1 HI0.out.choose_spec.2.1 HI0.out.choose_spec.2.2.1 HI0.out.choose_spec.2.2.2 rfl (by decide) g' o' c' N' _ (by simp [Act.eval]) (HQ4.out.chg ((((Chg.refl (fun _ => False) w4).drew.alloc (.cells #[.int .i64 (x : Int)] 3)).trans hc5 (fun _ x => x.elim)).alloc (.cells #[.int .i64 (E : Int), .string (txt (p.2 ++ [x]))] 50)) (fun x => x)) ⟨w5.heap.size, 0, none⟩ 1 1 [.int .i64 (E : Int), .string (txt (p.2 ++ [x]))] (by simp [Act.eval]) rfl (by decide) (fun j v hj => by rw [add_plain, Nat.zero_add]; exact (Blk.new w5 #[.int .i64 (E : Int), .string (txt (p.2 ++ [x]))] 50).cell_some hj) (by intro v hv; simp at hv; rcases hv with rfl | rfl <;> rfl) (by have := HN'.out; unfold maxLen; omega) (by have := HN'.out; omega) ?_; intro g6 o6 c6 w6 hq6 hg6 hc6))
                  all_goals
                    have hall : Chg (fun k => k = g') w4 w6 := ((((Chg.refl (fun k => k = g') w4).drew.alloc _).trans hc5 (fun _ x => x.elim)).alloc _).trans hc6 (fun _ h => .inl h)
                    have hg7 : g6 = g' ∨ w4.heap.size ≤ g6 := hg6.imp id (fun h => Nat.le_trans (((((Chg.refl (fun k => k = g') w4).drew.alloc (.cells #[.int .i64 (x : Int)] 3)).trans hc5 (fun _ x => x.elim)).alloc _).size) h)
                    rename_i hheld
                    clear hheld hg6 hc6 hc5 hs0 hput hlook hcat q0 q1 q2 HWR HI0
                    have HALL := Lib.hid hall; have HQ6 := Lib.hid hq6; have HG7 := Lib.hid hg7
                    clear hall hq6 hg7
                    go_wp2_with fail
                    go_roundg (2 - (x + 1))
                    case measure => omega
                    case rel =>
                      have hab4 : ab < w4.heap.size := HB4.out.lt
                      have hq := HQ6.out
                      rw [← HN'.out] at hq
                      have hF := (HFF.out.pushN u HIP.out (show x + 1 ≤ 2 by omega)).1
                      rw [HPN.out] at hF
                      have hM6 := HM.out.push (q := (E, p.2 ++ [x])) HC4.out HS4.out HALL.out hq HG7.out hF
                      refine ⟨x + 1, g6, o6, c6, by omega, rfl, by go_num, ?_, ?_, ?_, HALL.out.blk HB4.out hga⟩
                      · rw [HPN.out, List.length_append, List.length_singleton, ← HN'.out]
                        congr 1
                        have := HM.out.le
                        omega
                      · rw [HPN.out]; exact hM6
                      · rcases HG7.out with rfl | h
                        · exact HG.out
                        · omega
              · obtain rfl : x = 2 := by omega
                have hpl := pushN_len u p fs 2
                have hlt2 : i < (pushN u p fs 2).length := by omega
                have HT := Lib.hid (HM.out.tail hlt2)
                have hNN : 0 < (pushN u p fs 2).length - i := by omega
                have HN2 := Lib.hid (show (pushN u p fs 2).length - (i + 1) = (pushN u p fs 2).length - i - 1 by omega)
                obtain ⟨N', hN'⟩ : ∃ N', (pushN u p fs 2).length - i = N' := ⟨_, rfl⟩
                rw [hN'] at hNN HN2 ⊢
                clear hpl hlt2 hN'
                have hsl := fun w' => slice_que w' g' o' N' c' hNN
                obtain ⟨o2, ho2⟩ : ∃ o2, (if c' = 1 then o' else o' + 2) = o2 := ⟨_, rfl⟩
                rw [ho2] at HT
                simp only [ho2] at hsl
                clear ho2
                go_wp2_with fail
                go_roundg (17 - (i + 1))
                case measure => omega
                case rel => exact ⟨i + 1, g', o2, c' - 1, pushN u p fs 2, rfl, by rw [HN2.out], HO2.out.symm, HT.out⟩
          · have d0 : decide (0 ≤ most) = false := by simpa using h0
            clear hmo h0
            go_wp2_with fail
            have HM3 := HM2; have HBB := HBA
            clear HM2 HBA
            generalize wr.alloc (.cells #[.int .i64 (p.1 : Int), .string (txt p.2)] 50) = W2 at HM3 HBB ⊢
            go_loopg [37, 7] 2 (fun gm xv tv w3 => ∃ (x g' o' c' : Nat), x ≤ 2 ∧ gm = 2 - x ∧ xv = .int .i64 x ∧ tv = .slice (some ⟨g', o', none⟩) ((pushN u p fs x).length - i) c' ∧ OMem w w3 mb i g' o' c' (pushN u p fs x) ∧ g' ≠ ab ∧ Blk w3 ab 50 [.int .i64 (p.1 : Int), .string (txt p.2)])
            case atStart => exact ⟨0, g, o, c, by omega, rfl, rfl, by rw [← HN.out]; rfl, HM3.out, HGA.out, HBB.out⟩
            case round =>
              clear HM3 HBB
              obtain ⟨x, g', o', c', hx, rfl, rfl, rfl, hM, hga, hB⟩ := hrel
              have HM := Lib.hid hM; have HB := Lib.hid hB; have HG := Lib.hid hga
              clear hM hB hga
              by_cases hx2 : x < 2
              · have dx : decide ((x : Int) < 2) = true := by simp; omega
                have q0 := HB.out.cell_some (i := 0) rfl
                have q1 := HB.out.cell_some (i := 1) rfl
                have hn16 : nextV u p.1 x < 1000 := Nat.lt_trans (nextF_lt _ _ _ _) (by omega)
                have hlook := HM.out.seen.look hn16
                by_cases hin : nextV u p.1 x ∈ (pushN u p fs x).map (·.1)
                · have HPN := Lib.hid (pushN_old hin)
                  rw [show decide (nextV u p.1 x ∈ (pushN u p fs x).map (·.1)) = true by simpa using hin] at hlook
                  clear hin
                  go_wp2_with fail
                  refine (next_any u p.1 x hu HSM.out.1 hx2 _).mono ?_
                  rintro e W3 ⟨rfl, rfl⟩
                  go_wp2_with fail
                  go_roundg (2 - (x + 1))
                  case measure => omega
                  case rel => exact ⟨x + 1, g', o', c', by omega, rfl, by go_num, by rw [HPN.out], by rw [HPN.out]; exact HM.out, HG.out, HB.out⟩
                · have HPN := Lib.hid (pushN_new hin)
                  rw [show decide (nextV u p.1 x ∈ (pushN u p fs x).map (·.1)) = false by simpa using hin] at hlook
                  clear hin
                  have hfl := HM.out.fnd.len
                  obtain ⟨w4, hput, hs4, hc4⟩ := HM.out.seen.put (by simp; omega) hn16
                  have hbk : Blk w4 ab 50 [.int .i64 (p.1 : Int), .string (txt p.2)] := hc4.blk HB.out (fun e => HMA.out e.symm)
                  have hq4 : QueB w4 2 g' o' c' ((pushN u p fs x).length - i) (quCells ((pushN u p fs x).drop i)) := HM.out.que.chg hc4 HM.out.apart
                  have HS4 := Lib.hid hs4; have HC4 := Lib.hid hc4; have HQ4 := Lib.hid hq4; have HB4 := Lib.hid hbk
                  have q2 := hbk.cell_some (i := 1) rfl
                  have hs0 : SK w4 ab g' (.string (txt p.2)) w4.drew := SK.start q2
                  have hga : ab ≠ g' := fun e => HG.out e.symm
                  have HWR : Hid (∀ w' : World, Calls Tryd.prog 27 #[.slice (some ⟨w'.heap.size, 0, none⟩) 1 1] (w'.alloc (.cells #[.int .i64 (x : Int)] 3)) (fun e w'' => e = .returned (.string (txt [x])) ∧ Chg (fun _ => False) (w'.alloc (.cells #[.int .i64 (x : Int)] 3)) w'')) :=
                    Lib.hid (fun w' => written_any [x] _ 1 w'.heap.size 0 _ (nats_new w' x) (fun y hy => by simp at hy; omega) (by simp) (.inr rfl))
                  have hcat := cat_snoc p.2 x (by have := HSH.out; omega)
                  obtain ⟨E, hE⟩ : ∃ E, nextV u p.1 x = E := ⟨_, rfl⟩
                  have hcall := fun w' => next_any u p.1 x hu HSM.out.1 hx2 w'
                  simp only [hE] at hcall
                  rw [hE] at hlook hput HPN HS4
                  have HCALL := Lib.hid hcall
                  have HE := Lib.hid hE
                  obtain ⟨N', hN'⟩ : ∃ N', (pushN u p fs x).length - i = N' := ⟨_, rfl⟩
                  rw [hN'] at HQ4 ⊢
                  have HN' := Lib.hid hN'
                  clear hs4 hc4 hbk hq4 hcall hE hN' hn16
                  go_wp2_with fail
                  refine (HCALL.out _).mono ?_
                  rintro e W3 ⟨rfl, rfl⟩
                  go_wp2_with fail
                  go_region_held3 (fun w' => w'.cell? ⟨ab, 1, none⟩ = some (.string (txt p.2)) ∧ Chg (fun k => k = g') w4 w')
                    (first | exact hs0 | exact SK.alloc hs0 _ | exact SK.same (SK.alloc hs0 _) hc5 | exact SK.alloc (SK.same (SK.alloc hs0 _) hc5) _ | exact SK.put (SK.alloc (SK.same (SK.alloc hs0 _) hc5) _) hc6 hga)
                    (first
                      | (go_at_call 27; refine (HWR.out w4.drew).mono ?_; rintro e w5 ⟨rfl, hc5⟩)
                      | (refine step_append_que rfl (.tmp 51) (.tmp 60) 51 rfl 50 HI0.out.choose _ 2 24 Tryd.underlying51 HI0.out.choose_spec.1 HI0.out.choose_spec.2.1 HI0.out.choose_spec.2.2.1 HI0.out.choose_spec.2.2.2 rfl (by decide) g' o' c' N' _ (by simp [Act.eval]) (HQ4.out.chg ((((Chg.refl (fun _ => False) w4).drew.alloc (.cells #[.int .i64 (x : Int)] 3)).trans hc5 (fun _ x => x.elim)).alloc (.cells #[.int .i64 (E : Int), .string (txt (p.2 ++ [x]))] 50)) (fun x => x)) ⟨w5.heap.size, 0, none⟩ 1 1 [.int .i64 (E : Int), .string (txt (p.2 ++ [x]))] (by simp [Act.eval]) rfl (by decide) (fun j v hj => by rw [add_plain, Nat.zero_add]; exact (Blk.new w5 #[.int .i64 (E : Int), .string (txt (p.2 ++ [x]))] 50).cell_some hj) (by intro v hv; simp at hv; rcases hv with rfl | rfl <;> rfl) (by have := HN'.out; unfold maxLen; omega) (by have := HN'.out; omega) ?_; intro g6 o6 c6 w6 hq6 hg6 hc6))
                  all_goals
                    have hall : Chg (fun k => k = g') w4 w6 := ((((Chg.refl (fun k => k = g') w4).drew.alloc _).trans hc5 (fun _ x => x.elim)).alloc _).trans hc6 (fun _ h => .inl h)
                    have hg7 : g6 = g' ∨ w4.heap.size ≤ g6 := hg6.imp id (fun h => Nat.le_trans (((((Chg.refl (fun k => k = g') w4).drew.alloc (.cells #[.int .i64 (x : Int)] 3)).trans hc5 (fun _ x => x.elim)).alloc _).size) h)
                    rename_i hheld
                    clear hheld hg6 hc6 hc5 hs0 hput hlook hcat q0 q1 q2 HWR HI0
                    have HALL := Lib.hid hall; have HQ6 := Lib.hid hq6; have HG7 := Lib.hid hg7
                    clear hall hq6 hg7
                    go_wp2_with fail
                    go_roundg (2 - (x + 1))
                    case measure => omega
                    case rel =>
                      have hab4 : ab < w4.heap.size := HB4.out.lt
                      have hq := HQ6.out
                      rw [← HN'.out] at hq
                      have hF := (HFF.out.pushN u HIP.out (show x + 1 ≤ 2 by omega)).1
                      rw [HPN.out] at hF
                      have hM6 := HM.out.push (q := (E, p.2 ++ [x])) HC4.out HS4.out HALL.out hq HG7.out hF
                      refine ⟨x + 1, g6, o6, c6, by omega, rfl, by go_num, ?_, ?_, ?_, HALL.out.blk HB4.out hga⟩
                      · rw [HPN.out, List.length_append, List.length_singleton, ← HN'.out]
                        congr 1
                        have := HM.out.le
                        omega
                      · rw [HPN.out]; exact hM6
                      · rcases HG7.out with rfl | h
                        · exact HG.out
                        · omega
              · obtain rfl : x = 2 := by omega
                have hpl := pushN_len u p fs 2
                have hlt2 : i < (pushN u p fs 2).length := by omega
                have HT := Lib.hid (HM.out.tail hlt2)
                have hNN : 0 < (pushN u p fs 2).length - i := by omega
                have HN2 := Lib.hid (show (pushN u p fs 2).length - (i + 1) = (pushN u p fs 2).length - i - 1 by omega)
                obtain ⟨N', hN'⟩ : ∃ N', (pushN u p fs 2).length - i = N' := ⟨_, rfl⟩
                rw [hN'] at hNN HN2 ⊢
                clear hpl hlt2 hN'
                have hsl := fun w' => slice_que w' g' o' N' c' hNN
                obtain ⟨o2, ho2⟩ : ∃ o2, (if c' = 1 then o' else o' + 2) = o2 := ⟨_, rfl⟩
                rw [ho2] at HT
                simp only [ho2] at hsl
                clear ho2
                go_wp2_with fail
                go_roundg (17 - (i + 1))
                case measure => omega
                case rel => exact ⟨i + 1, g', o2, c' - 1, pushN u p fs 2, rfl, by rw [HN2.out], HO2.out.symm, HT.out⟩
    · obtain rfl : i = fs.length := by have := hM.le; omega
      have hn : orphV u (mostO most) = none := by
        rw [← hO]
        have := hM.fnd.len
        rw [show 17 - fs.length = (16 - fs.length) + 1 by omega, orphF, List.getElem?_eq_none (Nat.le_refl _)]
      have HNN := Lib.hid hn
      rw [Nat.sub_self]
      clear hO hM hn
      go_wp2_with fail
      go_ret2
      rw [HNN.out]
      exact ⟨rfl, HMM.out.chg⟩
end Go.Proofs.YtdopmafhdhahiaaDoor
