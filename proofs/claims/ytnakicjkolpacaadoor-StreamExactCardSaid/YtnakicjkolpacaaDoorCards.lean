/-
  DERIVED. GIVEN WITH THE SEED: THE CARDS: each row of YtnakicjkolpacaaDoorRows.lean that lists a variable, with what it lists TIED to the program's text (the seventh form; the later family's looks); each row that meets fmt, with fmt's text TOLD by the authors' own Lean function (tested against real Go, not proved from fmt's source: count such statements apart). THE CARD IS WHAT COUNTS. Prove the row's statement (the work); the ties are given (YtnakicjkolpacaaDoorTie.lean); close each card by the builder's one call (the guide's Derived/Test/ToyasCard.lean, 'card_holds'). Laid BY PROGRAM, IN A SANDBOX (cutbox-door.mjs). By AI agents, Wed Nov 11 2026. No macro, syntax, notation, axiom, sorry.
-/
import Derived.Test.YtnakicjkolpacaaDoorRows
import GoSem.ClaimSeven
namespace Go.Proofs.YtnakicjkolpacaaDoor
namespace Rows

/-- THE TIED CARD OF 'woodcutlaw23.StreamExact'. -/
def streamExactCard : Claim7 := { stood := { row := streamExactRow, standIns := [], harness := (true, "436391bd0367c857290e60df24ac93f10df131590b2387774a004c7f8fa412e2"), looks := false }, kinds := [], alts := [], laidByText := true, laidKinds := [.data, .data, .data], laidTests := true, laidLooks := .later }
def StreamExactCardSaid : Prop := Claim7.holds Tryd.pinned (.plain (OpenSpec.ofChange streamExactSpec)) streamExactCard

/-- THE TIED CARD OF 'woodcutlaw23.StreamBack'. -/
def streamBackCard : Claim7 := { stood := { row := streamBackRow, standIns := [], harness := (true, "436391bd0367c857290e60df24ac93f10df131590b2387774a004c7f8fa412e2"), looks := false }, kinds := [], alts := [], laidByText := true, laidKinds := [.data, .data, .data], laidTests := true, laidLooks := .later }
def StreamBackCardSaid : Prop := Claim7.holds Tryd.pinned (.plain (OpenSpec.ofChange streamBackSpec)) streamBackCard

/-- THE TIED CARD OF 'woodcutlaw23.StreamBent'. -/
def streamBentCard : Claim7 := { stood := { row := streamBentRow, standIns := [], harness := (true, "436391bd0367c857290e60df24ac93f10df131590b2387774a004c7f8fa412e2"), looks := false }, kinds := [], alts := [], laidByText := true, laidKinds := [.data, .data, .data], laidTests := true, laidLooks := .later }
def StreamBentCardSaid : Prop := Claim7.holds Tryd.pinned (.plain (OpenSpec.ofChange streamBentSpec)) streamBentCard

/-- THE TIED CARD OF 'woodcutlaw23.StreamWhole'. -/
def streamWholeCard : Claim7 := { stood := { row := streamWholeRow, standIns := [], harness := (true, "436391bd0367c857290e60df24ac93f10df131590b2387774a004c7f8fa412e2"), looks := false }, kinds := [], alts := [], laidByText := true, laidKinds := [.data, .data, .data], laidTests := true, laidLooks := .later }
def StreamWholeCardSaid : Prop := Claim7.holds Tryd.pinned (.plain (OpenSpec.ofChange streamWholeSpec)) streamWholeCard

/-- THE TIED CARD OF 'woodcutlaw23.StreamOrder'. -/
def streamOrderCard : Claim7 := { stood := { row := streamOrderRow, standIns := [], harness := (true, "436391bd0367c857290e60df24ac93f10df131590b2387774a004c7f8fa412e2"), looks := false }, kinds := [], alts := [], laidByText := true, laidKinds := [.data, .data, .data], laidTests := true, laidLooks := .later }
def StreamOrderCardSaid : Prop := Claim7.holds Tryd.pinned (.plain (OpenSpec.ofChange streamOrderSpec)) streamOrderCard

/-- THE TIED CARD OF 'woodcutlaw23.StreamSkips'. -/
def streamSkipsCard : Claim7 := { stood := { row := streamSkipsRow, standIns := [], harness := (true, "436391bd0367c857290e60df24ac93f10df131590b2387774a004c7f8fa412e2"), looks := false }, kinds := [], alts := [], laidByText := true, laidKinds := [.data, .data, .data], laidTests := true, laidLooks := .later }
def StreamSkipsCardSaid : Prop := Claim7.holds Tryd.pinned (.plain (OpenSpec.ofChange streamSkipsSpec)) streamSkipsCard

/-- THE TIED CARD OF 'woodcutlaw23.StreamDumps'. -/
def streamDumpsCard : Claim7 := { stood := { row := streamDumpsRow, standIns := [], harness := (true, "436391bd0367c857290e60df24ac93f10df131590b2387774a004c7f8fa412e2"), looks := false }, kinds := [], alts := [], laidByText := true, laidKinds := [.data, .data, .data], laidTests := true, laidLooks := .later }
def StreamDumpsCardSaid : Prop := Claim7.holds Tryd.pinned (.plain (OpenSpec.ofChange streamDumpsSpec)) streamDumpsCard

/-- THE SECOND FORM's CARD OF 'woodcutlaw23.StreamExact'. -/
def streamExactUptoCard : Claim7 := { stood := { row := streamExactUptoRow, standIns := [], harness := (true, "436391bd0367c857290e60df24ac93f10df131590b2387774a004c7f8fa412e2"), looks := false }, kinds := [], alts := [], laidByText := true, laidKinds := [.data, .data, .data], laidTests := true, laidLooks := .later }
def StreamExactUptoCardSaid : Prop := Claim7.holds Tryd.pinned (.plain (OpenSpec.upto streamExactSpec)) streamExactUptoCard

/-- THE SECOND FORM's CARD OF 'woodcutlaw23.StreamBack'. -/
def streamBackUptoCard : Claim7 := { stood := { row := streamBackUptoRow, standIns := [], harness := (true, "436391bd0367c857290e60df24ac93f10df131590b2387774a004c7f8fa412e2"), looks := false }, kinds := [], alts := [], laidByText := true, laidKinds := [.data, .data, .data], laidTests := true, laidLooks := .later }
def StreamBackUptoCardSaid : Prop := Claim7.holds Tryd.pinned (.plain (OpenSpec.upto streamBackSpec)) streamBackUptoCard

/-- THE SECOND FORM's CARD OF 'woodcutlaw23.StreamBent'. -/
def streamBentUptoCard : Claim7 := { stood := { row := streamBentUptoRow, standIns := [], harness := (true, "436391bd0367c857290e60df24ac93f10df131590b2387774a004c7f8fa412e2"), looks := false }, kinds := [], alts := [], laidByText := true, laidKinds := [.data, .data, .data], laidTests := true, laidLooks := .later }
def StreamBentUptoCardSaid : Prop := Claim7.holds Tryd.pinned (.plain (OpenSpec.upto streamBentSpec)) streamBentUptoCard

/-- THE SECOND FORM's CARD OF 'woodcutlaw23.StreamWhole'. -/
def streamWholeUptoCard : Claim7 := { stood := { row := streamWholeUptoRow, standIns := [], harness := (true, "436391bd0367c857290e60df24ac93f10df131590b2387774a004c7f8fa412e2"), looks := false }, kinds := [], alts := [], laidByText := true, laidKinds := [.data, .data, .data], laidTests := true, laidLooks := .later }
def StreamWholeUptoCardSaid : Prop := Claim7.holds Tryd.pinned (.plain (OpenSpec.upto streamWholeSpec)) streamWholeUptoCard

/-- THE SECOND FORM's CARD OF 'woodcutlaw23.StreamOrder'. -/
def streamOrderUptoCard : Claim7 := { stood := { row := streamOrderUptoRow, standIns := [], harness := (true, "436391bd0367c857290e60df24ac93f10df131590b2387774a004c7f8fa412e2"), looks := false }, kinds := [], alts := [], laidByText := true, laidKinds := [.data, .data, .data], laidTests := true, laidLooks := .later }
def StreamOrderUptoCardSaid : Prop := Claim7.holds Tryd.pinned (.plain (OpenSpec.upto streamOrderSpec)) streamOrderUptoCard

/-- THE SECOND FORM's CARD OF 'woodcutlaw23.StreamSkips'. -/
def streamSkipsUptoCard : Claim7 := { stood := { row := streamSkipsUptoRow, standIns := [], harness := (true, "436391bd0367c857290e60df24ac93f10df131590b2387774a004c7f8fa412e2"), looks := false }, kinds := [], alts := [], laidByText := true, laidKinds := [.data, .data, .data], laidTests := true, laidLooks := .later }
def StreamSkipsUptoCardSaid : Prop := Claim7.holds Tryd.pinned (.plain (OpenSpec.upto streamSkipsSpec)) streamSkipsUptoCard

/-- THE SECOND FORM's CARD OF 'woodcutlaw23.StreamDumps'. -/
def streamDumpsUptoCard : Claim7 := { stood := { row := streamDumpsUptoRow, standIns := [], harness := (true, "436391bd0367c857290e60df24ac93f10df131590b2387774a004c7f8fa412e2"), looks := false }, kinds := [], alts := [], laidByText := true, laidKinds := [.data, .data, .data], laidTests := true, laidLooks := .later }
def StreamDumpsUptoCardSaid : Prop := Claim7.holds Tryd.pinned (.plain (OpenSpec.upto streamDumpsSpec)) streamDumpsUptoCard
end Rows
end Go.Proofs.YtnakicjkolpacaaDoor
