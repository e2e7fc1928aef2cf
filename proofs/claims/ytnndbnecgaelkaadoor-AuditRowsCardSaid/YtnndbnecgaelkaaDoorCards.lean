/-
  DERIVED. GIVEN WITH THE SEED: THE CARDS: each row of YtnndbnecgaelkaaDoorRows.lean that lists a variable, with what it lists TIED to the program's text (the seventh form; the later family's looks); each row that meets fmt, with fmt's text TOLD by the authors' own Lean function (tested against real Go, not proved from fmt's source: count such statements apart). THE CARD IS WHAT COUNTS. Prove the row's statement (the work); the ties are given (YtnndbnecgaelkaaDoorTie.lean); close each card by the builder's one call (the guide's Derived/Test/ToyasCard.lean, 'card_holds'). Laid BY PROGRAM, IN A SANDBOX (cutbox-door.mjs). By AI agents, Wed Nov 11 2026. No macro, syntax, notation, axiom, sorry.
-/
import Derived.Test.YtnndbnecgaelkaaDoorRows
import GoSem.ClaimSeven
namespace Go.Proofs.YtnndbnecgaelkaaDoor
namespace Rows

/-- THE TIED CARD OF 'choirlaw5.AuditRows'. -/
def auditRowsCard : Claim7 := { stood := { row := auditRowsRow, standIns := [], harness := (true, "059db467b47d47c3fd5815c053e373821a4f2d2cc4d8d4766a5af030e4ea1323"), looks := true }, kinds := [], alts := [], laidByText := true, laidKinds := [.handle], laidTests := true, laidLooks := .later }
def AuditRowsCardSaid : Prop := Claim7.holds Tryd.pinned (.plain (OpenSpec.ofChange auditRowsSpec)) auditRowsCard

/-- THE TIED CARD OF 'choirlaw3.RateShares'. -/
def rateSharesCard : Claim7 := { stood := { row := rateSharesRow, standIns := [], harness := (true, "059db467b47d47c3fd5815c053e373821a4f2d2cc4d8d4766a5af030e4ea1323"), looks := true }, kinds := [], alts := [], laidByText := true, laidKinds := [.handle], laidTests := true, laidLooks := .later }
def RateSharesCardSaid : Prop := Claim7.holds Tryd.pinned (.plain (OpenSpec.ofChange rateSharesSpec)) rateSharesCard

/-- THE SECOND FORM's CARD OF 'choirlaw5.AuditRows'. -/
def auditRowsUptoCard : Claim7 := { stood := { row := auditRowsUptoRow, standIns := [], harness := (true, "059db467b47d47c3fd5815c053e373821a4f2d2cc4d8d4766a5af030e4ea1323"), looks := true }, kinds := [], alts := [], laidByText := true, laidKinds := [.handle], laidTests := true, laidLooks := .later }
def AuditRowsUptoCardSaid : Prop := Claim7.holds Tryd.pinned (.plain (OpenSpec.upto auditRowsSpec)) auditRowsUptoCard

/-- THE SECOND FORM's CARD OF 'choirlaw3.RateShares'. -/
def rateSharesUptoCard : Claim7 := { stood := { row := rateSharesUptoRow, standIns := [], harness := (true, "059db467b47d47c3fd5815c053e373821a4f2d2cc4d8d4766a5af030e4ea1323"), looks := true }, kinds := [], alts := [], laidByText := true, laidKinds := [.handle], laidTests := true, laidLooks := .later }
def RateSharesUptoCardSaid : Prop := Claim7.holds Tryd.pinned (.plain (OpenSpec.upto rateSharesSpec)) rateSharesUptoCard
end Rows
end Go.Proofs.YtnndbnecgaelkaaDoor
