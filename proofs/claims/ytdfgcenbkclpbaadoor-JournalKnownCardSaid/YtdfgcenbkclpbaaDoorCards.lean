/-
  DERIVED. GIVEN WITH THE SEED: THE CARDS: each row of YtdfgcenbkclpbaaDoorRows.lean that lists a variable, with what it lists TIED to the program's text (the seventh form; the later family's looks); each row that meets fmt, with fmt's text TOLD by the authors' own Lean function (tested against real Go, not proved from fmt's source: count such statements apart). THE CARD IS WHAT COUNTS. Prove the row's statement (the work); the ties are given (YtdfgcenbkclpbaaDoorTie.lean); close each card by the builder's one call (the guide's Derived/Test/ToyasCard.lean, 'card_holds'). Laid BY PROGRAM, IN A SANDBOX (cutbox-door.mjs). By AI agents, Wed Nov 11 2026. No macro, syntax, notation, axiom, sorry.
-/
import Derived.Test.YtdfgcenbkclpbaaDoorRows
import GoSem.ClaimSeven
namespace Go.Proofs.YtdfgcenbkclpbaaDoor
namespace Rows

/-- THE TIED CARD OF 'campanilelaw06.JournalAny'. -/
def journalAnyCard : Claim7 := { stood := { row := journalAnyRow, standIns := [], harness := (true, "342708f5b3af755a0da43c316801862b896943e7721fe5082878d9878650793b"), looks := false }, kinds := [], alts := [], laidByText := true, laidKinds := [.data], laidTests := true, laidLooks := .later }
def JournalAnyCardSaid : Prop := Claim7.holds Tryd.pinned (.plain (OpenSpec.ofChange journalAnySpec)) journalAnyCard

/-- THE TIED CARD OF 'campanilelaw06.JournalTwo'. -/
def journalTwoCard : Claim7 := { stood := { row := journalTwoRow, standIns := [], harness := (true, "342708f5b3af755a0da43c316801862b896943e7721fe5082878d9878650793b"), looks := false }, kinds := [], alts := [], laidByText := true, laidKinds := [.data], laidTests := true, laidLooks := .later }
def JournalTwoCardSaid : Prop := Claim7.holds Tryd.pinned (.plain (OpenSpec.ofChange journalTwoSpec)) journalTwoCard

/-- THE TIED CARD OF 'campanilelaw06.JournalPlays'. -/
def journalPlaysCard : Claim7 := { stood := { row := journalPlaysRow, standIns := [], harness := (true, "342708f5b3af755a0da43c316801862b896943e7721fe5082878d9878650793b"), looks := false }, kinds := [], alts := [], laidByText := true, laidKinds := [.data], laidTests := true, laidLooks := .later }
def JournalPlaysCardSaid : Prop := Claim7.holds Tryd.pinned (.plain (OpenSpec.ofChange journalPlaysSpec)) journalPlaysCard

/-- THE TIED CARD OF 'campanilelaw06.JournalCuts'. -/
def journalCutsCard : Claim7 := { stood := { row := journalCutsRow, standIns := [], harness := (true, "342708f5b3af755a0da43c316801862b896943e7721fe5082878d9878650793b"), looks := false }, kinds := [], alts := [], laidByText := true, laidKinds := [.data], laidTests := true, laidLooks := .later }
def JournalCutsCardSaid : Prop := Claim7.holds Tryd.pinned (.plain (OpenSpec.ofChange journalCutsSpec)) journalCutsCard

/-- THE TIED CARD OF 'campanilelaw06.JournalKnown'. -/
def journalKnownCard : Claim7 := { stood := { row := journalKnownRow, standIns := [], harness := (true, "342708f5b3af755a0da43c316801862b896943e7721fe5082878d9878650793b"), looks := false }, kinds := [], alts := [], laidByText := true, laidKinds := [.data], laidTests := true, laidLooks := .later }
def JournalKnownCardSaid : Prop := Claim7.holds Tryd.pinned (.plain (OpenSpec.ofChange journalKnownSpec)) journalKnownCard

/-- THE SECOND FORM's CARD OF 'campanilelaw06.JournalAny'. -/
def journalAnyUptoCard : Claim7 := { stood := { row := journalAnyUptoRow, standIns := [], harness := (true, "342708f5b3af755a0da43c316801862b896943e7721fe5082878d9878650793b"), looks := false }, kinds := [], alts := [], laidByText := true, laidKinds := [.data], laidTests := true, laidLooks := .later }
def JournalAnyUptoCardSaid : Prop := Claim7.holds Tryd.pinned (.plain (OpenSpec.upto journalAnySpec)) journalAnyUptoCard

/-- THE SECOND FORM's CARD OF 'campanilelaw06.JournalTwo'. -/
def journalTwoUptoCard : Claim7 := { stood := { row := journalTwoUptoRow, standIns := [], harness := (true, "342708f5b3af755a0da43c316801862b896943e7721fe5082878d9878650793b"), looks := false }, kinds := [], alts := [], laidByText := true, laidKinds := [.data], laidTests := true, laidLooks := .later }
def JournalTwoUptoCardSaid : Prop := Claim7.holds Tryd.pinned (.plain (OpenSpec.upto journalTwoSpec)) journalTwoUptoCard

/-- THE SECOND FORM's CARD OF 'campanilelaw06.JournalPlays'. -/
def journalPlaysUptoCard : Claim7 := { stood := { row := journalPlaysUptoRow, standIns := [], harness := (true, "342708f5b3af755a0da43c316801862b896943e7721fe5082878d9878650793b"), looks := false }, kinds := [], alts := [], laidByText := true, laidKinds := [.data], laidTests := true, laidLooks := .later }
def JournalPlaysUptoCardSaid : Prop := Claim7.holds Tryd.pinned (.plain (OpenSpec.upto journalPlaysSpec)) journalPlaysUptoCard

/-- THE SECOND FORM's CARD OF 'campanilelaw06.JournalCuts'. -/
def journalCutsUptoCard : Claim7 := { stood := { row := journalCutsUptoRow, standIns := [], harness := (true, "342708f5b3af755a0da43c316801862b896943e7721fe5082878d9878650793b"), looks := false }, kinds := [], alts := [], laidByText := true, laidKinds := [.data], laidTests := true, laidLooks := .later }
def JournalCutsUptoCardSaid : Prop := Claim7.holds Tryd.pinned (.plain (OpenSpec.upto journalCutsSpec)) journalCutsUptoCard

/-- THE SECOND FORM's CARD OF 'campanilelaw06.JournalKnown'. -/
def journalKnownUptoCard : Claim7 := { stood := { row := journalKnownUptoRow, standIns := [], harness := (true, "342708f5b3af755a0da43c316801862b896943e7721fe5082878d9878650793b"), looks := false }, kinds := [], alts := [], laidByText := true, laidKinds := [.data], laidTests := true, laidLooks := .later }
def JournalKnownUptoCardSaid : Prop := Claim7.holds Tryd.pinned (.plain (OpenSpec.upto journalKnownSpec)) journalKnownUptoCard
end Rows
end Go.Proofs.YtdfgcenbkclpbaaDoor
