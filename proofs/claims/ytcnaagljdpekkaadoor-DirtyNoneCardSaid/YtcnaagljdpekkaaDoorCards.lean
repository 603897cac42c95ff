/-
  DERIVED. GIVEN WITH THE SEED: THE CARDS: each row of YtcnaagljdpekkaaDoorRows.lean that lists a variable, with what it lists TIED to the program's text (the seventh form; the later family's looks); each row that meets fmt, with fmt's text TOLD by the authors' own Lean function (tested against real Go, not proved from fmt's source: count such statements apart). THE CARD IS WHAT COUNTS. Prove the row's statement (the work); the ties are given (YtcnaagljdpekkaaDoorTie.lean); close each card by the builder's one call (the guide's Derived/Test/ToyasCard.lean, 'card_holds'). Laid BY PROGRAM, IN A SANDBOX (cutbox-door.mjs). By AI agents, Wed Nov 11 2026. No macro, syntax, notation, axiom, sorry.
-/
import Derived.Test.YtcnaagljdpekkaaDoorRows
import GoSem.ClaimSeven
namespace Go.Proofs.YtcnaagljdpekkaaDoor
namespace Rows

/-- THE TIED CARD OF 'tandemlaw10.DirtyNone'. -/
def dirtyNoneCard : Claim7 := { stood := { row := dirtyNoneRow, standIns := [], harness := (true, "ceb1aae9e00733c31d41528d0a5ed777a4fa573d6d7ff68e380073058b243e5c"), looks := false }, kinds := [], alts := [], laidByText := true, laidKinds := [.data], laidTests := true, laidLooks := .later }
def DirtyNoneCardSaid : Prop := Claim7.holds Tryd.pinned (.plain (OpenSpec.ofChange dirtyNoneSpec)) dirtyNoneCard

/-- THE TIED CARD OF 'tandemlaw10.DirtyKnown'. -/
def dirtyKnownCard : Claim7 := { stood := { row := dirtyKnownRow, standIns := [], harness := (true, "ceb1aae9e00733c31d41528d0a5ed777a4fa573d6d7ff68e380073058b243e5c"), looks := false }, kinds := [], alts := [], laidByText := true, laidKinds := [.data], laidTests := true, laidLooks := .later }
def DirtyKnownCardSaid : Prop := Claim7.holds Tryd.pinned (.plain (OpenSpec.ofChange dirtyKnownSpec)) dirtyKnownCard

/-- THE TIED CARD OF 'tandemlaw10.DirtySuper'. -/
def dirtySuperCard : Claim7 := { stood := { row := dirtySuperRow, standIns := [], harness := (true, "ceb1aae9e00733c31d41528d0a5ed777a4fa573d6d7ff68e380073058b243e5c"), looks := false }, kinds := [], alts := [], laidByText := true, laidKinds := [.data], laidTests := true, laidLooks := .later }
def DirtySuperCardSaid : Prop := Claim7.holds Tryd.pinned (.plain (OpenSpec.ofChange dirtySuperSpec)) dirtySuperCard

/-- THE TIED CARD OF 'tandemlaw10.DirtyKeeps'. -/
def dirtyKeepsCard : Claim7 := { stood := { row := dirtyKeepsRow, standIns := [], harness := (true, "ceb1aae9e00733c31d41528d0a5ed777a4fa573d6d7ff68e380073058b243e5c"), looks := false }, kinds := [], alts := [], laidByText := true, laidKinds := [.data], laidTests := true, laidLooks := .later }
def DirtyKeepsCardSaid : Prop := Claim7.holds Tryd.pinned (.plain (OpenSpec.ofChange dirtyKeepsSpec)) dirtyKeepsCard

/-- THE SECOND FORM's CARD OF 'tandemlaw10.DirtyNone'. -/
def dirtyNoneUptoCard : Claim7 := { stood := { row := dirtyNoneUptoRow, standIns := [], harness := (true, "ceb1aae9e00733c31d41528d0a5ed777a4fa573d6d7ff68e380073058b243e5c"), looks := false }, kinds := [], alts := [], laidByText := true, laidKinds := [.data], laidTests := true, laidLooks := .later }
def DirtyNoneUptoCardSaid : Prop := Claim7.holds Tryd.pinned (.plain (OpenSpec.upto dirtyNoneSpec)) dirtyNoneUptoCard

/-- THE SECOND FORM's CARD OF 'tandemlaw10.DirtyKnown'. -/
def dirtyKnownUptoCard : Claim7 := { stood := { row := dirtyKnownUptoRow, standIns := [], harness := (true, "ceb1aae9e00733c31d41528d0a5ed777a4fa573d6d7ff68e380073058b243e5c"), looks := false }, kinds := [], alts := [], laidByText := true, laidKinds := [.data], laidTests := true, laidLooks := .later }
def DirtyKnownUptoCardSaid : Prop := Claim7.holds Tryd.pinned (.plain (OpenSpec.upto dirtyKnownSpec)) dirtyKnownUptoCard

/-- THE SECOND FORM's CARD OF 'tandemlaw10.DirtySuper'. -/
def dirtySuperUptoCard : Claim7 := { stood := { row := dirtySuperUptoRow, standIns := [], harness := (true, "ceb1aae9e00733c31d41528d0a5ed777a4fa573d6d7ff68e380073058b243e5c"), looks := false }, kinds := [], alts := [], laidByText := true, laidKinds := [.data], laidTests := true, laidLooks := .later }
def DirtySuperUptoCardSaid : Prop := Claim7.holds Tryd.pinned (.plain (OpenSpec.upto dirtySuperSpec)) dirtySuperUptoCard

/-- THE SECOND FORM's CARD OF 'tandemlaw10.DirtyKeeps'. -/
def dirtyKeepsUptoCard : Claim7 := { stood := { row := dirtyKeepsUptoRow, standIns := [], harness := (true, "ceb1aae9e00733c31d41528d0a5ed777a4fa573d6d7ff68e380073058b243e5c"), looks := false }, kinds := [], alts := [], laidByText := true, laidKinds := [.data], laidTests := true, laidLooks := .later }
def DirtyKeepsUptoCardSaid : Prop := Claim7.holds Tryd.pinned (.plain (OpenSpec.upto dirtyKeepsSpec)) dirtyKeepsUptoCard
end Rows
end Go.Proofs.YtcnaagljdpekkaaDoor
