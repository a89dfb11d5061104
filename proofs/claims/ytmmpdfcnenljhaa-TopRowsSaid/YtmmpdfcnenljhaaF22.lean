/- The law FenceBridges, walked. Its conditions are its premises. -/
import Derived.Test.YtmmpdfcnenljhaaF21
set_option linter.unusedVariables false
namespace Go.Proofs.Ytmmpdfcnenljhaa
open Go.RowKit

/-- A law's answer. -/
def Yes (w : World) (e : Ending) (w' : World) : Prop := e = .returned (.bool true) ∧ Chg (fun _ => False) w w'

theorem LPost.list {r : List Int × Int} {w : World} {e : Ending} {w' : World} (h : LPost r w e w') : ∃ v, e = .returned (.tuple #[v, .int .i64 r.2]) ∧ ListV w' v r.1 ∧ Chg (fun _ => False) w w' := by
  obtain ⟨ao, c, g, h1, h2, h3, h4⟩ := h
  exact ⟨_, h1, ⟨ao, c, rfl, h2.imp id fun h => ⟨g, h, h3⟩⟩, h4⟩

theorem Calls.grow_chg' {P : Program} {f : FuncId} {args : Array Value} {w : World} {v : Value} (h : Calls P f args w fun e w' => e = .returned v ∧ ∃ z, w' = w.grow z) : Calls P f args w fun e w' => e = .returned v ∧ Chg (fun _ => False) w w' :=
  h.mono fun _ _ ⟨he, z, hz⟩ => ⟨he, hz ▸ grow_chg w z⟩

set_option maxRecDepth 100000 in
set_option maxHeartbeats 2000000 in
theorem law_bridges (n : Int) (l : List Fe) (a : Option Addr) (cap b off : Nat) (w : World) (hs : FencesAt w b off l) (ha : l = [] ∨ a = some ⟨b, off, none⟩) :
    Calls Try.prog 6 #[.int .i64 n, .slice a l.length cap] w (Yes w) := by
  have HS := Lib.hid hs; have HA := Lib.hid ha
  clear hs ha
  go_enter Try.func6, Try.ntmps6
  go_wp2_with fail
  refine (few_any a l.length cap w).mono ?_
  rintro e w1 ⟨rfl, rfl⟩
  by_cases hl : l.length ≤ 40
  · rw [decide_eq_true hl]
    go_wp2_with fail
    refine (Bridges_any n l a cap b off w1 HS.out HA.out).mono ?_
    rintro e w2 hp2
    obtain ⟨v2, rfl, hv2, hc2⟩ := hp2.list
    have HC2 := Lib.hid hc2; have HV2 := Lib.hid hv2
    clear hp2 hv2 hc2
    go_wp2_with fail
    refine (rBridges_any n l a cap b off w2 (HS.out.chg HC2.out (fun x => x)) HA.out).mono ?_
    rintro e w3 hp3
    obtain ⟨v3, rfl, hv3, hc3⟩ := hp3.list
    have HC3 := Lib.hid (HC2.out.trans hc3 (fun _ x => x.elim)); have HV3 := Lib.hid hv3; have HV23 := Lib.hid (HV2.out.chg hc3)
    clear hp3 hv3 hc3 HC2 HV2
    have hsm := same_lists v2 v3 _ _ w3 HV23.out HV3.out (bridgesE_len n l) (bridgesE_len n l)
    rw [decide_eq_true (show (bridgesE n l).1 = (bridgesE n l).1 from rfl)] at hsm
    have HSM := Lib.hid hsm
    clear hsm
    obtain ⟨er, her⟩ : ∃ er, (bridgesE n l).2 = er := ⟨_, rfl⟩
    rw [her]
    go_wp2_with fail
    refine HSM.out.mono ?_
    rintro e w4 ⟨rfl, z, rfl⟩
    have HC4 := Lib.hid (HC3.out.trans (grow_chg w3 z) (fun _ x => x.elim))
    generalize w3.grow z = w4 at HC4 ⊢
    clear HC3 HV3 HV23 HSM her
    go_wp2_with fail
    refine (Groups_any n l a cap b off w4 (HS.out.chg HC4.out (fun x => x)) HA.out).mono ?_
    rintro e w5 hp5
    obtain ⟨m5, e5, rfl, hE5, hc5⟩ : ∃ m e', e = .returned (.tuple #[.int .i64 m, .int .i64 e']) ∧ Hid (m = (if gardenE n l = 0 then groupsV n.toNat l (allV l) else 0) ∧ e' = gardenE n l) ∧ Chg (fun _ => False) w4 w5 := by
      obtain ⟨hc, ⟨h0, rfl⟩ | ⟨h0, rfl⟩⟩ := hp5
      · exact ⟨_, _, rfl, Lib.hid ⟨by rw [if_neg h0], rfl⟩, hc⟩
      · exact ⟨_, _, rfl, Lib.hid ⟨by rw [if_pos h0], h0.symm⟩, hc⟩
    have HC5 := Lib.hid (HC4.out.trans hc5 (fun _ x => x.elim))
    clear hp5 hc5 HC4
    go_wp2_with fail
    refine (rGroups_any n l a cap b off w5 (HS.out.chg HC5.out (fun x => x)) HA.out).mono ?_
    rintro e w6 hp6
    obtain ⟨m6, e6, rfl, hE6, hc6⟩ : ∃ m e', e = .returned (.tuple #[.int .i64 m, .int .i64 e']) ∧ Hid (m = (if gardenE n l = 0 then groupsV n.toNat l (allV l) else 0) ∧ e' = gardenE n l) ∧ Chg (fun _ => False) w5 w6 := by
      obtain ⟨hc, ⟨h0, rfl⟩ | ⟨h0, rfl⟩⟩ := hp6
      · exact ⟨_, _, rfl, Lib.hid ⟨by rw [if_neg h0], rfl⟩, hc⟩
      · exact ⟨_, _, rfl, Lib.hid ⟨by rw [if_pos h0], h0.symm⟩, hc⟩
    have HC6 := Lib.hid (HC5.out.trans hc6 (fun _ x => x.elim))
    obtain rfl : m5 = m6 := by rw [hE5.out.1, hE6.out.1]
    obtain rfl : e5 = e6 := by rw [hE5.out.2, hE6.out.2]
    clear hp6 hc6 HC5 hE5 hE6
    go_wp2_with fail
    refine (alive_any w6).mono ?_
    rintro e w7 ⟨rfl, hc7⟩
    have HC7 := Lib.hid (HC6.out.trans hc7 (fun _ x => x.elim))
    clear hc7 HC6
    go_wp2_with fail
    go_ret
    exact ⟨rfl, HC7.out⟩
  · rw [decide_eq_false hl]
    clear hl
    go_wp2_with fail
    refine (alive_any w1).mono ?_
    rintro e w7 ⟨rfl, hc7⟩
    have HC7 := Lib.hid hc7
    clear hc7
    go_wp2_with fail
    go_ret
    exact ⟨rfl, HC7.out⟩
end Go.Proofs.Ytmmpdfcnenljhaa
