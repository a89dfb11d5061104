/-
  DERIVED. GIVEN WITH THE SEED: THE CARDS: each row of YtilacamhjibneaaDoorRows.lean that lists a variable, with what it lists TIED to the program's text (the seventh form; the later family's looks); each row that meets fmt, with fmt's text TOLD by the authors' own Lean function (tested against real Go, not proved from fmt's source: count such statements apart). THE CARD IS WHAT COUNTS. Prove the row's statement (the work); the ties are given (YtilacamhjibneaaDoorTie.lean); close each card by the builder's one call (the guide's Derived/Test/ToyasCard.lean, 'card_holds'). Laid BY PROGRAM, IN A SANDBOX (cutbox-door.mjs). By AI agents, Wed Nov 11 2026. No macro, syntax, notation, axiom, sorry.
-/
import Derived.Test.YtilacamhjibneaaDoorRows
import GoSem.ClaimSeven
namespace Go.Proofs.YtilacamhjibneaaDoor
namespace Rows

/-- THE TIED CARD OF 'dibberlaw03.VineFactors'. -/
def vineFactorsCard : Claim7 := { stood := { row := vineFactorsRow, standIns := [], harness := (true, "78277d85d1fa7831c84611b993614b2a4a79f57409a1d0772a3baebcd82c2c19"), looks := false }, kinds := [], alts := [], laidByText := true, laidKinds := [.data, .pinned], laidTests := true, laidLooks := .later }
def VineFactorsCardSaid : Prop := Claim7.holds Tryd.pinned (.plain (OpenSpec.ofChange vineFactorsSpec)) vineFactorsCard

/-- THE TIED CARD OF 'dibberlaw03.VineRecurs'. -/
def vineRecursCard : Claim7 := { stood := { row := vineRecursRow, standIns := [], harness := (true, "78277d85d1fa7831c84611b993614b2a4a79f57409a1d0772a3baebcd82c2c19"), looks := false }, kinds := [], alts := [], laidByText := true, laidKinds := [.data, .pinned], laidTests := true, laidLooks := .later }
def VineRecursCardSaid : Prop := Claim7.holds Tryd.pinned (.plain (OpenSpec.ofChange vineRecursSpec)) vineRecursCard

/-- THE TIED CARD OF 'dibberlaw03.VineKinds'. -/
def vineKindsCard : Claim7 := { stood := { row := vineKindsRow, standIns := [], harness := (true, "78277d85d1fa7831c84611b993614b2a4a79f57409a1d0772a3baebcd82c2c19"), looks := false }, kinds := [], alts := [], laidByText := true, laidKinds := [.data, .pinned], laidTests := true, laidLooks := .later }
def VineKindsCardSaid : Prop := Claim7.holds Tryd.pinned (.plain (OpenSpec.ofChange vineKindsSpec)) vineKindsCard

/-- THE TIED CARD OF 'dibberlaw03.VineEndless'. -/
def vineEndlessCard : Claim7 := { stood := { row := vineEndlessRow, standIns := [], harness := (true, "78277d85d1fa7831c84611b993614b2a4a79f57409a1d0772a3baebcd82c2c19"), looks := false }, kinds := [], alts := [], laidByText := true, laidKinds := [.data, .pinned], laidTests := true, laidLooks := .later }
def VineEndlessCardSaid : Prop := Claim7.holds Tryd.pinned (.plain (OpenSpec.ofChange vineEndlessSpec)) vineEndlessCard

/-- THE TIED CARD OF 'dibberlaw03.VineGrows'. -/
def vineGrowsCard : Claim7 := { stood := { row := vineGrowsRow, standIns := [], harness := (true, "78277d85d1fa7831c84611b993614b2a4a79f57409a1d0772a3baebcd82c2c19"), looks := false }, kinds := [], alts := [], laidByText := true, laidKinds := [.data, .pinned], laidTests := true, laidLooks := .later }
def VineGrowsCardSaid : Prop := Claim7.holds Tryd.pinned (.plain (OpenSpec.ofChange vineGrowsSpec)) vineGrowsCard

/-- THE TIED CARD OF 'dibberlaw03.VineSturm'. -/
def vineSturmCard : Claim7 := { stood := { row := vineSturmRow, standIns := [], harness := (true, "78277d85d1fa7831c84611b993614b2a4a79f57409a1d0772a3baebcd82c2c19"), looks := false }, kinds := [], alts := [], laidByText := true, laidKinds := [.data, .pinned], laidTests := true, laidLooks := .later }
def VineSturmCardSaid : Prop := Claim7.holds Tryd.pinned (.plain (OpenSpec.ofChange vineSturmSpec)) vineSturmCard

/-- THE TIED CARD OF 'dibberlaw03.VineRepeats'. -/
def vineRepeatsCard : Claim7 := { stood := { row := vineRepeatsRow, standIns := [], harness := (true, "78277d85d1fa7831c84611b993614b2a4a79f57409a1d0772a3baebcd82c2c19"), looks := false }, kinds := [], alts := [], laidByText := true, laidKinds := [.data, .pinned], laidTests := true, laidLooks := .later }
def VineRepeatsCardSaid : Prop := Claim7.holds Tryd.pinned (.plain (OpenSpec.ofChange vineRepeatsSpec)) vineRepeatsCard

/-- THE TIED CARD OF 'dibberlaw03.VineSame'. -/
def vineSameCard : Claim7 := { stood := { row := vineSameRow, standIns := [], harness := (true, "78277d85d1fa7831c84611b993614b2a4a79f57409a1d0772a3baebcd82c2c19"), looks := false }, kinds := [], alts := [], laidByText := true, laidKinds := [.data, .pinned], laidTests := true, laidLooks := .later }
def VineSameCardSaid : Prop := Claim7.holds Tryd.pinned (.plain (OpenSpec.ofChange vineSameSpec)) vineSameCard

/-- THE TIED CARD OF 'dibberlaw03.VineAt'. -/
def vineAtCard : Claim7 := { stood := { row := vineAtRow, standIns := [], harness := (true, "78277d85d1fa7831c84611b993614b2a4a79f57409a1d0772a3baebcd82c2c19"), looks := false }, kinds := [], alts := [], laidByText := true, laidKinds := [.data, .pinned], laidTests := true, laidLooks := .later }
def VineAtCardSaid : Prop := Claim7.holds Tryd.pinned (.plain (OpenSpec.ofChange vineAtSpec)) vineAtCard

/-- THE TIED CARD OF 'dibberlaw03.VineOrders'. -/
def vineOrdersCard : Claim7 := { stood := { row := vineOrdersRow, standIns := [], harness := (true, "78277d85d1fa7831c84611b993614b2a4a79f57409a1d0772a3baebcd82c2c19"), looks := false }, kinds := [], alts := [], laidByText := true, laidKinds := [.data, .pinned], laidTests := true, laidLooks := .later }
def VineOrdersCardSaid : Prop := Claim7.holds Tryd.pinned (.plain (OpenSpec.ofChange vineOrdersSpec)) vineOrdersCard

/-- THE TIED CARD OF 'dibberlaw03.VineBuds'. -/
def vineBudsCard : Claim7 := { stood := { row := vineBudsRow, standIns := [], harness := (true, "78277d85d1fa7831c84611b993614b2a4a79f57409a1d0772a3baebcd82c2c19"), looks := false }, kinds := [], alts := [], laidByText := true, laidKinds := [.data, .pinned], laidTests := true, laidLooks := .later }
def VineBudsCardSaid : Prop := Claim7.holds Tryd.pinned (.plain (OpenSpec.ofChange vineBudsSpec)) vineBudsCard

/-- THE TIED CARD OF 'dibberlaw03.VineAdds'. -/
def vineAddsCard : Claim7 := { stood := { row := vineAddsRow, standIns := [], harness := (true, "78277d85d1fa7831c84611b993614b2a4a79f57409a1d0772a3baebcd82c2c19"), looks := false }, kinds := [], alts := [], laidByText := true, laidKinds := [.data, .pinned], laidTests := true, laidLooks := .later }
def VineAddsCardSaid : Prop := Claim7.holds Tryd.pinned (.plain (OpenSpec.ofChange vineAddsSpec)) vineAddsCard

/-- THE SECOND FORM's CARD OF 'dibberlaw03.VineFactors'. -/
def vineFactorsUptoCard : Claim7 := { stood := { row := vineFactorsUptoRow, standIns := [], harness := (true, "78277d85d1fa7831c84611b993614b2a4a79f57409a1d0772a3baebcd82c2c19"), looks := false }, kinds := [], alts := [], laidByText := true, laidKinds := [.data, .pinned], laidTests := true, laidLooks := .later }
def VineFactorsUptoCardSaid : Prop := Claim7.holds Tryd.pinned (.plain (OpenSpec.upto vineFactorsSpec)) vineFactorsUptoCard

/-- THE SECOND FORM's CARD OF 'dibberlaw03.VineRecurs'. -/
def vineRecursUptoCard : Claim7 := { stood := { row := vineRecursUptoRow, standIns := [], harness := (true, "78277d85d1fa7831c84611b993614b2a4a79f57409a1d0772a3baebcd82c2c19"), looks := false }, kinds := [], alts := [], laidByText := true, laidKinds := [.data, .pinned], laidTests := true, laidLooks := .later }
def VineRecursUptoCardSaid : Prop := Claim7.holds Tryd.pinned (.plain (OpenSpec.upto vineRecursSpec)) vineRecursUptoCard

/-- THE SECOND FORM's CARD OF 'dibberlaw03.VineKinds'. -/
def vineKindsUptoCard : Claim7 := { stood := { row := vineKindsUptoRow, standIns := [], harness := (true, "78277d85d1fa7831c84611b993614b2a4a79f57409a1d0772a3baebcd82c2c19"), looks := false }, kinds := [], alts := [], laidByText := true, laidKinds := [.data, .pinned], laidTests := true, laidLooks := .later }
def VineKindsUptoCardSaid : Prop := Claim7.holds Tryd.pinned (.plain (OpenSpec.upto vineKindsSpec)) vineKindsUptoCard

/-- THE SECOND FORM's CARD OF 'dibberlaw03.VineEndless'. -/
def vineEndlessUptoCard : Claim7 := { stood := { row := vineEndlessUptoRow, standIns := [], harness := (true, "78277d85d1fa7831c84611b993614b2a4a79f57409a1d0772a3baebcd82c2c19"), looks := false }, kinds := [], alts := [], laidByText := true, laidKinds := [.data, .pinned], laidTests := true, laidLooks := .later }
def VineEndlessUptoCardSaid : Prop := Claim7.holds Tryd.pinned (.plain (OpenSpec.upto vineEndlessSpec)) vineEndlessUptoCard

/-- THE SECOND FORM's CARD OF 'dibberlaw03.VineGrows'. -/
def vineGrowsUptoCard : Claim7 := { stood := { row := vineGrowsUptoRow, standIns := [], harness := (true, "78277d85d1fa7831c84611b993614b2a4a79f57409a1d0772a3baebcd82c2c19"), looks := false }, kinds := [], alts := [], laidByText := true, laidKinds := [.data, .pinned], laidTests := true, laidLooks := .later }
def VineGrowsUptoCardSaid : Prop := Claim7.holds Tryd.pinned (.plain (OpenSpec.upto vineGrowsSpec)) vineGrowsUptoCard

/-- THE SECOND FORM's CARD OF 'dibberlaw03.VineSturm'. -/
def vineSturmUptoCard : Claim7 := { stood := { row := vineSturmUptoRow, standIns := [], harness := (true, "78277d85d1fa7831c84611b993614b2a4a79f57409a1d0772a3baebcd82c2c19"), looks := false }, kinds := [], alts := [], laidByText := true, laidKinds := [.data, .pinned], laidTests := true, laidLooks := .later }
def VineSturmUptoCardSaid : Prop := Claim7.holds Tryd.pinned (.plain (OpenSpec.upto vineSturmSpec)) vineSturmUptoCard

/-- THE SECOND FORM's CARD OF 'dibberlaw03.VineRepeats'. -/
def vineRepeatsUptoCard : Claim7 := { stood := { row := vineRepeatsUptoRow, standIns := [], harness := (true, "78277d85d1fa7831c84611b993614b2a4a79f57409a1d0772a3baebcd82c2c19"), looks := false }, kinds := [], alts := [], laidByText := true, laidKinds := [.data, .pinned], laidTests := true, laidLooks := .later }
def VineRepeatsUptoCardSaid : Prop := Claim7.holds Tryd.pinned (.plain (OpenSpec.upto vineRepeatsSpec)) vineRepeatsUptoCard

/-- THE SECOND FORM's CARD OF 'dibberlaw03.VineSame'. -/
def vineSameUptoCard : Claim7 := { stood := { row := vineSameUptoRow, standIns := [], harness := (true, "78277d85d1fa7831c84611b993614b2a4a79f57409a1d0772a3baebcd82c2c19"), looks := false }, kinds := [], alts := [], laidByText := true, laidKinds := [.data, .pinned], laidTests := true, laidLooks := .later }
def VineSameUptoCardSaid : Prop := Claim7.holds Tryd.pinned (.plain (OpenSpec.upto vineSameSpec)) vineSameUptoCard

/-- THE SECOND FORM's CARD OF 'dibberlaw03.VineAt'. -/
def vineAtUptoCard : Claim7 := { stood := { row := vineAtUptoRow, standIns := [], harness := (true, "78277d85d1fa7831c84611b993614b2a4a79f57409a1d0772a3baebcd82c2c19"), looks := false }, kinds := [], alts := [], laidByText := true, laidKinds := [.data, .pinned], laidTests := true, laidLooks := .later }
def VineAtUptoCardSaid : Prop := Claim7.holds Tryd.pinned (.plain (OpenSpec.upto vineAtSpec)) vineAtUptoCard

/-- THE SECOND FORM's CARD OF 'dibberlaw03.VineOrders'. -/
def vineOrdersUptoCard : Claim7 := { stood := { row := vineOrdersUptoRow, standIns := [], harness := (true, "78277d85d1fa7831c84611b993614b2a4a79f57409a1d0772a3baebcd82c2c19"), looks := false }, kinds := [], alts := [], laidByText := true, laidKinds := [.data, .pinned], laidTests := true, laidLooks := .later }
def VineOrdersUptoCardSaid : Prop := Claim7.holds Tryd.pinned (.plain (OpenSpec.upto vineOrdersSpec)) vineOrdersUptoCard

/-- THE SECOND FORM's CARD OF 'dibberlaw03.VineBuds'. -/
def vineBudsUptoCard : Claim7 := { stood := { row := vineBudsUptoRow, standIns := [], harness := (true, "78277d85d1fa7831c84611b993614b2a4a79f57409a1d0772a3baebcd82c2c19"), looks := false }, kinds := [], alts := [], laidByText := true, laidKinds := [.data, .pinned], laidTests := true, laidLooks := .later }
def VineBudsUptoCardSaid : Prop := Claim7.holds Tryd.pinned (.plain (OpenSpec.upto vineBudsSpec)) vineBudsUptoCard

/-- THE SECOND FORM's CARD OF 'dibberlaw03.VineAdds'. -/
def vineAddsUptoCard : Claim7 := { stood := { row := vineAddsUptoRow, standIns := [], harness := (true, "78277d85d1fa7831c84611b993614b2a4a79f57409a1d0772a3baebcd82c2c19"), looks := false }, kinds := [], alts := [], laidByText := true, laidKinds := [.data, .pinned], laidTests := true, laidLooks := .later }
def VineAddsUptoCardSaid : Prop := Claim7.holds Tryd.pinned (.plain (OpenSpec.upto vineAddsSpec)) vineAddsUptoCard
end Rows
end Go.Proofs.YtilacamhjibneaaDoor
