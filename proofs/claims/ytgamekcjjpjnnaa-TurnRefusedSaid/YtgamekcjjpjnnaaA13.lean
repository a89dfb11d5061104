/- turn.Ring's recursive closure, walked: it finds the first ring that refuses. Its conditions are its premises. -/
import Derived.Test.YtgamekcjjpjnnaaA12
import Derived.Test.YtgamekcjjpjnnaaM5
import Derived.Deep.RegionLawGrows
set_option linter.unusedVariables false
namespace Go.Proofs.Ytgamekcjjpjnnaa
open Go.RowKit

/-- The memory of a search for a ring. -/
structure RLook (w : World) (bl bf bp bs bo p b off L T N : Nat) (a : Option Addr) (cap : Nat) (l : List Sp) : Prop where
  ll : w.cell? ⟨bl, 0, none⟩ = some (.int .i64 L)
  ff : ∃ v, Blk w bf 25 [v]
  pp : w.cell? ⟨bp, 0, none⟩ = some (.pointer (some ⟨p, 0, none⟩))
  ss : w.cell? ⟨bs, 0, none⟩ = some (.slice a l.length cap)
  oo : w.cell? ⟨bo, 0, none⟩ = some (.func (.func 44) #[] #[.pointer (some ⟨bl, 0, none⟩), .pointer (some ⟨bf, 0, none⟩), .pointer (some ⟨bp, 0, none⟩), .pointer (some ⟨bs, 0, none⟩), .pointer (some ⟨bo, 0, none⟩)])
  plan : PlanAt w p T N (.slice a l.length cap)
  spans : SpansAt w b off l

theorem RLook.chg {w w' : World} {bl bf bp bs bo p b off L T N : Nat} {a : Option Addr} {cap : Nat} {l : List Sp} (h : RLook w bl bf bp bs bo p b off L T N a cap l) (hc : Chg (fun k => k = bf) w w') (hf : ∃ v, Blk w' bf 25 [v])
    (h1 : bl ≠ bf) (h2 : bp ≠ bf) (h3 : bs ≠ bf) (h4 : bo ≠ bf) (h5 : p ≠ bf) (h6 : b ≠ bf) : RLook w' bl bf bp bs bo p b off L T N a cap l :=
  ⟨hc.cell_some h.ll h1, hf, hc.cell_some h.pp h2, hc.cell_some h.ss h3, hc.cell_some h.oo h4, h.plan.chg hc h5, h.spans.chg hc h6⟩

theorem RLook.chg0 {w w' : World} {bl bf bp bs bo p b off L T N : Nat} {a : Option Addr} {cap : Nat} {l : List Sp} (h : RLook w bl bf bp bs bo p b off L T N a cap l) (hc : Chg (fun _ => False) w w') : RLook w' bl bf bp bs bo p b off L T N a cap l :=
  ⟨hc.cell_some h.ll (fun x => x), by obtain ⟨v, hv⟩ := h.ff; exact ⟨v, hc.blk hv (fun x => x)⟩, hc.cell_some h.pp (fun x => x), hc.cell_some h.ss (fun x => x), hc.cell_some h.oo (fun x => x), h.plan.chg hc (fun x => x), h.spans.chg hc (fun x => x)⟩

/-- What a search leaves. -/
def RPost (r : Option (List Int)) (bf : Nat) (w : World) (e : Ending) (w' : World) : Prop :=
  e = .returned (.bool r.isSome) ∧ Chg (fun k => k = bf) w w' ∧ (∃ v, Blk w' bf 25 [v]) ∧ ∀ X, r = some X → ∃ g c, Blk w' bf 25 [.slice (some ⟨g, 0, none⟩) X.length c] ∧ IntsAt w' g 0 X

set_option maxRecDepth 100000 in
set_option maxHeartbeats 2000000 in
theorem ring_leaf (T N : Nat) (l : List Sp) (hv : Valid T N l) (bl bf bp bs bo p b off : Nat) (a : Option Addr) (cap : Nat) (R : List Int) (br cr : Nat) (sn : Int) (w : World)
    (hK : RLook w bl bf bp bs bo p b off R.length T N a cap l) (h2 : 2 ≤ R.length) (hR : IntsAt w br 0 R) (hbr : br ≠ bf) (hch : Chain l R R.length) (h5 : p ≠ bf) (h6 : bp ≠ bf) :
    Calls Try.prog 44 #[.slice (some ⟨br, 0, none⟩) R.length cr, .int .i64 (kSp l (hr R 0)).src, .int .i64 (kSp l (hr R (R.length - 1))).dst, .int .i64 sn, .int .i64 (sumLo l R R.length), .int .i64 (sumHi l R R.length),
      .pointer (some ⟨bl, 0, none⟩), .pointer (some ⟨bf, 0, none⟩), .pointer (some ⟨bp, 0, none⟩), .pointer (some ⟨bs, 0, none⟩), .pointer (some ⟨bo, 0, none⟩)] w (RPost (ringSearch T l 0 R) bf w) := by
  have hfew := hch.few hv
  have hsb := sum_bounds hv hch.ok
  have hR6 : R.length ≤ 6 := by have := hv.n2; omega
  have hn2 := hv.n2
  have ht1 := hv.t1
  have ht2 := hv.t2
  have g0 := hK.ll
  have g1 := hK.pp
  have g2 := hK.plan.1
  obtain ⟨v, hB⟩ := hK.ff
  have f0 := hB.cell_some (i := 0) rfl
  have ff := hB.free 0
  have hB' := Lib.hid hB
  have HR := Lib.hid hR
  obtain ⟨S, hS⟩ : ∃ S, (kSp l (hr R 0)).src = S := ⟨_, rfl⟩
  obtain ⟨D, hD⟩ : ∃ D, (kSp l (hr R (R.length - 1))).dst = D := ⟨_, rfl⟩
  obtain ⟨lo, hlo⟩ : ∃ lo, sumLo l R R.length = lo := ⟨_, rfl⟩
  obtain ⟨hi, hhi⟩ : ∃ hi, sumHi l R R.length = hi := ⟨_, rfl⟩
  have he : ringSearch T l 0 R = if decide (D = S ∧ hi < lo + -lo % (T : Int)) = true then some R else none := by
    unfold ringSearch ringEnd
    rw [hS, hD, hlo, hhi]
  rw [hS, hD, hlo, hhi]
  obtain ⟨r0, hr0⟩ : ∃ r0, ringSearch T l 0 R = r0 := ⟨_, rfl⟩
  rw [hr0] at he ⊢
  have HE := Lib.hid he
  rw [hlo, hhi] at hsb
  have HC : Hid (Chg (fun k => k = bf) w (w.setCell ⟨bf, 0, none⟩ (.slice (some ⟨br, 0, none⟩) R.length cr))) := Lib.hid ((Chg.refl (fun k => k = bf) w).setCell (a := ⟨bf, 0, none⟩) (.inl rfl) _)
  have HN : Hid (Blk (w.setCell ⟨bf, 0, none⟩ (.slice (some ⟨br, 0, none⟩) R.length cr)) bf 25 [.slice (some ⟨br, 0, none⟩) R.length cr]) := Lib.hid (hB.set 0 _)
  have hcp : (w.setCell ⟨bf, 0, none⟩ (.slice (some ⟨br, 0, none⟩) R.length cr)).cell? ⟨p, 0, none⟩ = some (.int .i64 T) := HC.out.cell_some g2 h5
  have hcpp : (w.setCell ⟨bf, 0, none⟩ (.slice (some ⟨br, 0, none⟩) R.length cr)).cell? ⟨bp, 0, none⟩ = some (.pointer (some ⟨p, 0, none⟩)) := HC.out.cell_some g1 h6
  have HCP := Lib.hid hcp; have HCPP := Lib.hid hcpp; have HBR := Lib.hid hbr
  clear hK hB hR hch hS hD hlo hhi he hr0 hcp hcpp hbr hfew
  by_cases hDS : D = S
  · subst hDS
    go_enter Try.func44, Try.ntmps44
    go_wp2_with fail
    generalize w.setCell ⟨bf, 0, none⟩ (.slice (some ⟨br, 0, none⟩) R.length cr) = W at HC HN HCP HCPP ⊢
    refine (refuses_any lo hi T p 0 W (by omega) (by omega) (by omega) (by omega) (by omega) (by omega) HCP.out).mono ?_
    rintro e w' ⟨rfl, y, rfl⟩
    go_wp2_with fail
    go_ret
    have hb2 := HN.out.drewN y
    have he := HE.out
    by_cases hrf : hi < lo + -lo % (T : Int)
    · rw [if_pos (by simpa using hrf)] at he
      subst he
      refine ⟨by simp [hrf], HC.out.drewN y, ⟨_, hb2⟩, fun X hX => ?_⟩
      cases hX
      exact ⟨br, cr, hb2, (HR.out.chg HC.out HBR.out).chg ((Chg.refl (fun _ => False) W).drewN y) (fun x => x)⟩
    · rw [if_neg (by simpa using hrf)] at he
      subst he
      exact ⟨by simp [hrf], HC.out.drewN y, ⟨_, hb2⟩, fun X hX => by cases hX⟩
  · have hq : (D == S) = false := by simpa using hDS
    go_enter Try.func44, Try.ntmps44
    go_wp2_with fail
    go_ret
    have he := HE.out
    rw [if_neg (by simp [hDS])] at he
    subst he
    exact ⟨by simp, HC.out, ⟨_, HN.out⟩, fun X hX => by cases hX⟩
end Go.Proofs.Ytgamekcjjpjnnaa
