/-
  DERIVED. GIVEN WITH THE SEED: THE CARDS: each row of YtnllocghmnhooaaDoorRows.lean that lists a variable, with what it lists TIED to the program's text (the seventh form; the later family's looks); each row that meets fmt, with fmt's text TOLD by the authors' own Lean function (tested against real Go, not proved from fmt's source: count such statements apart). THE CARD IS WHAT COUNTS. Prove the row's statement (the work); the ties are given (YtnllocghmnhooaaDoorTie.lean); close each card by the builder's one call (the guide's Derived/Test/ToyasCard.lean, 'card_holds'). Laid BY PROGRAM, IN A SANDBOX (cutbox-door.mjs). By AI agents, Wed Nov 11 2026. No macro, syntax, notation, axiom, sorry.
-/
import Derived.Test.YtnllocghmnhooaaDoorRows
import GoSem.ClaimSeven
namespace Go.Proofs.YtnllocghmnhooaaDoor
namespace Rows

/-- THE TIED CARD OF 'stelelaw58.ReconcileAnswer'. -/
def reconcileAnswerCard : Claim7 := { stood := { row := reconcileAnswerRow, standIns := [], harness := (true, "543c66e120265bf36312d0be280659165804b5f9bd8efbd76d9464666eac257a"), looks := false }, kinds := [], alts := [], laidByText := true, laidKinds := [.data, .data, .data], laidTests := true, laidLooks := .later }
def ReconcileAnswerCardSaid : Prop := Claim7.holds Tryd.pinned (.plain (OpenSpec.ofChange reconcileAnswerSpec)) reconcileAnswerCard

/-- THE TIED CARD OF 'stelelaw58.ReconcileSync'. -/
def reconcileSyncCard : Claim7 := { stood := { row := reconcileSyncRow, standIns := [], harness := (true, "543c66e120265bf36312d0be280659165804b5f9bd8efbd76d9464666eac257a"), looks := false }, kinds := [], alts := [], laidByText := true, laidKinds := [.data, .data, .data], laidTests := true, laidLooks := .later }
def ReconcileSyncCardSaid : Prop := Claim7.holds Tryd.pinned (.plain (OpenSpec.ofChange reconcileSyncSpec)) reconcileSyncCard

/-- THE TIED CARD OF 'stelelaw58.ReconcileAgreement'. -/
def reconcileAgreementCard : Claim7 := { stood := { row := reconcileAgreementRow, standIns := [], harness := (true, "543c66e120265bf36312d0be280659165804b5f9bd8efbd76d9464666eac257a"), looks := false }, kinds := [], alts := [], laidByText := true, laidKinds := [.data, .data, .data], laidTests := true, laidLooks := .later }
def ReconcileAgreementCardSaid : Prop := Claim7.holds Tryd.pinned (.plain (OpenSpec.ofChange reconcileAgreementSpec)) reconcileAgreementCard

/-- THE TIED CARD OF 'stelelaw58.ReconcileEconomy'. -/
def reconcileEconomyCard : Claim7 := { stood := { row := reconcileEconomyRow, standIns := [], harness := (true, "543c66e120265bf36312d0be280659165804b5f9bd8efbd76d9464666eac257a"), looks := false }, kinds := [], alts := [], laidByText := true, laidKinds := [.data, .data, .data], laidTests := true, laidLooks := .later }
def ReconcileEconomyCardSaid : Prop := Claim7.holds Tryd.pinned (.plain (OpenSpec.ofChange reconcileEconomySpec)) reconcileEconomyCard

/-- THE TIED CARD OF 'stelelaw58.ReconcileConflicts'. -/
def reconcileConflictsCard : Claim7 := { stood := { row := reconcileConflictsRow, standIns := [], harness := (true, "543c66e120265bf36312d0be280659165804b5f9bd8efbd76d9464666eac257a"), looks := false }, kinds := [], alts := [], laidByText := true, laidKinds := [.data, .data, .data], laidTests := true, laidLooks := .later }
def ReconcileConflictsCardSaid : Prop := Claim7.holds Tryd.pinned (.plain (OpenSpec.ofChange reconcileConflictsSpec)) reconcileConflictsCard

/-- THE TIED CARD OF 'stelelaw58.ReconcileExchange'. -/
def reconcileExchangeCard : Claim7 := { stood := { row := reconcileExchangeRow, standIns := [], harness := (true, "543c66e120265bf36312d0be280659165804b5f9bd8efbd76d9464666eac257a"), looks := false }, kinds := [], alts := [], laidByText := true, laidKinds := [.data, .data, .data], laidTests := true, laidLooks := .later }
def ReconcileExchangeCardSaid : Prop := Claim7.holds Tryd.pinned (.plain (OpenSpec.ofChange reconcileExchangeSpec)) reconcileExchangeCard

/-- THE TIED CARD OF 'stelelaw58.ReconcileRenaming'. -/
def reconcileRenamingCard : Claim7 := { stood := { row := reconcileRenamingRow, standIns := [], harness := (true, "543c66e120265bf36312d0be280659165804b5f9bd8efbd76d9464666eac257a"), looks := false }, kinds := [], alts := [], laidByText := true, laidKinds := [.data, .data, .data], laidTests := true, laidLooks := .later }
def ReconcileRenamingCardSaid : Prop := Claim7.holds Tryd.pinned (.plain (OpenSpec.ofChange reconcileRenamingSpec)) reconcileRenamingCard

/-- THE TIED CARD OF 'stelelaw58.ReconcileUnion'. -/
def reconcileUnionCard : Claim7 := { stood := { row := reconcileUnionRow, standIns := [], harness := (true, "543c66e120265bf36312d0be280659165804b5f9bd8efbd76d9464666eac257a"), looks := false }, kinds := [], alts := [], laidByText := true, laidKinds := [.data, .data, .data], laidTests := true, laidLooks := .later }
def ReconcileUnionCardSaid : Prop := Claim7.holds Tryd.pinned (.plain (OpenSpec.ofChange reconcileUnionSpec)) reconcileUnionCard

/-- THE SECOND FORM's CARD OF 'stelelaw58.ReconcileAnswer'. -/
def reconcileAnswerUptoCard : Claim7 := { stood := { row := reconcileAnswerUptoRow, standIns := [], harness := (true, "543c66e120265bf36312d0be280659165804b5f9bd8efbd76d9464666eac257a"), looks := false }, kinds := [], alts := [], laidByText := true, laidKinds := [.data, .data, .data], laidTests := true, laidLooks := .later }
def ReconcileAnswerUptoCardSaid : Prop := Claim7.holds Tryd.pinned (.plain (OpenSpec.upto reconcileAnswerSpec)) reconcileAnswerUptoCard

/-- THE SECOND FORM's CARD OF 'stelelaw58.ReconcileSync'. -/
def reconcileSyncUptoCard : Claim7 := { stood := { row := reconcileSyncUptoRow, standIns := [], harness := (true, "543c66e120265bf36312d0be280659165804b5f9bd8efbd76d9464666eac257a"), looks := false }, kinds := [], alts := [], laidByText := true, laidKinds := [.data, .data, .data], laidTests := true, laidLooks := .later }
def ReconcileSyncUptoCardSaid : Prop := Claim7.holds Tryd.pinned (.plain (OpenSpec.upto reconcileSyncSpec)) reconcileSyncUptoCard

/-- THE SECOND FORM's CARD OF 'stelelaw58.ReconcileAgreement'. -/
def reconcileAgreementUptoCard : Claim7 := { stood := { row := reconcileAgreementUptoRow, standIns := [], harness := (true, "543c66e120265bf36312d0be280659165804b5f9bd8efbd76d9464666eac257a"), looks := false }, kinds := [], alts := [], laidByText := true, laidKinds := [.data, .data, .data], laidTests := true, laidLooks := .later }
def ReconcileAgreementUptoCardSaid : Prop := Claim7.holds Tryd.pinned (.plain (OpenSpec.upto reconcileAgreementSpec)) reconcileAgreementUptoCard

/-- THE SECOND FORM's CARD OF 'stelelaw58.ReconcileEconomy'. -/
def reconcileEconomyUptoCard : Claim7 := { stood := { row := reconcileEconomyUptoRow, standIns := [], harness := (true, "543c66e120265bf36312d0be280659165804b5f9bd8efbd76d9464666eac257a"), looks := false }, kinds := [], alts := [], laidByText := true, laidKinds := [.data, .data, .data], laidTests := true, laidLooks := .later }
def ReconcileEconomyUptoCardSaid : Prop := Claim7.holds Tryd.pinned (.plain (OpenSpec.upto reconcileEconomySpec)) reconcileEconomyUptoCard

/-- THE SECOND FORM's CARD OF 'stelelaw58.ReconcileConflicts'. -/
def reconcileConflictsUptoCard : Claim7 := { stood := { row := reconcileConflictsUptoRow, standIns := [], harness := (true, "543c66e120265bf36312d0be280659165804b5f9bd8efbd76d9464666eac257a"), looks := false }, kinds := [], alts := [], laidByText := true, laidKinds := [.data, .data, .data], laidTests := true, laidLooks := .later }
def ReconcileConflictsUptoCardSaid : Prop := Claim7.holds Tryd.pinned (.plain (OpenSpec.upto reconcileConflictsSpec)) reconcileConflictsUptoCard

/-- THE SECOND FORM's CARD OF 'stelelaw58.ReconcileExchange'. -/
def reconcileExchangeUptoCard : Claim7 := { stood := { row := reconcileExchangeUptoRow, standIns := [], harness := (true, "543c66e120265bf36312d0be280659165804b5f9bd8efbd76d9464666eac257a"), looks := false }, kinds := [], alts := [], laidByText := true, laidKinds := [.data, .data, .data], laidTests := true, laidLooks := .later }
def ReconcileExchangeUptoCardSaid : Prop := Claim7.holds Tryd.pinned (.plain (OpenSpec.upto reconcileExchangeSpec)) reconcileExchangeUptoCard

/-- THE SECOND FORM's CARD OF 'stelelaw58.ReconcileRenaming'. -/
def reconcileRenamingUptoCard : Claim7 := { stood := { row := reconcileRenamingUptoRow, standIns := [], harness := (true, "543c66e120265bf36312d0be280659165804b5f9bd8efbd76d9464666eac257a"), looks := false }, kinds := [], alts := [], laidByText := true, laidKinds := [.data, .data, .data], laidTests := true, laidLooks := .later }
def ReconcileRenamingUptoCardSaid : Prop := Claim7.holds Tryd.pinned (.plain (OpenSpec.upto reconcileRenamingSpec)) reconcileRenamingUptoCard

/-- THE SECOND FORM's CARD OF 'stelelaw58.ReconcileUnion'. -/
def reconcileUnionUptoCard : Claim7 := { stood := { row := reconcileUnionUptoRow, standIns := [], harness := (true, "543c66e120265bf36312d0be280659165804b5f9bd8efbd76d9464666eac257a"), looks := false }, kinds := [], alts := [], laidByText := true, laidKinds := [.data, .data, .data], laidTests := true, laidLooks := .later }
def ReconcileUnionUptoCardSaid : Prop := Claim7.holds Tryd.pinned (.plain (OpenSpec.upto reconcileUnionSpec)) reconcileUnionUptoCard
end Rows
end Go.Proofs.YtnllocghmnhooaaDoor
