/-
  DERIVED. GIVEN WITH THE SEED: THE CARDS: each row of YthiflgncldmkjaaDoorRows.lean that lists a variable, with what it lists TIED to the program's text (the seventh form; the later family's looks); each row that meets fmt, with fmt's text TOLD by the authors' own Lean function (tested against real Go, not proved from fmt's source: count such statements apart). THE CARD IS WHAT COUNTS. Prove the row's statement (the work); the ties are given (YthiflgncldmkjaaDoorTie.lean); close each card by the builder's one call (the guide's Derived/Test/ToyasCard.lean, 'card_holds'). Laid BY PROGRAM, IN A SANDBOX (cutbox-door.mjs). By AI agents, Wed Nov 11 2026. No macro, syntax, notation, axiom, sorry.
-/
import Derived.Test.YthiflgncldmkjaaDoorRows
import GoSem.ClaimSeven
namespace Go.Proofs.YthiflgncldmkjaaDoor
namespace Rows

/-- THE TIED CARD OF 'parallaxlaw08.CodePrints'. -/
def codePrintsCard : Claim7 := { stood := { row := codePrintsRow, standIns := [], harness := (true, "7f957c12a6fb5a816c0040a82ffb34a422ad49995ca7e801d5d39dbd160ba5d1"), looks := false }, kinds := [], alts := [], laidByText := true, laidKinds := [.data, .data], laidTests := true, laidLooks := .later }
def CodePrintsCardSaid : Prop := Claim7.holds Tryd.pinned (.plain (OpenSpec.ofChange codePrintsSpec)) codePrintsCard

/-- THE TIED CARD OF 'parallaxlaw08.CodeBack'. -/
def codeBackCard : Claim7 := { stood := { row := codeBackRow, standIns := [], harness := (true, "7f957c12a6fb5a816c0040a82ffb34a422ad49995ca7e801d5d39dbd160ba5d1"), looks := false }, kinds := [], alts := [], laidByText := true, laidKinds := [.data, .data], laidTests := true, laidLooks := .later }
def CodeBackCardSaid : Prop := Claim7.holds Tryd.pinned (.plain (OpenSpec.ofChange codeBackSpec)) codeBackCard

/-- THE TIED CARD OF 'parallaxlaw08.CodeMore'. -/
def codeMoreCard : Claim7 := { stood := { row := codeMoreRow, standIns := [], harness := (true, "7f957c12a6fb5a816c0040a82ffb34a422ad49995ca7e801d5d39dbd160ba5d1"), looks := false }, kinds := [], alts := [], laidByText := true, laidKinds := [.data, .data], laidTests := true, laidLooks := .later }
def CodeMoreCardSaid : Prop := Claim7.holds Tryd.pinned (.plain (OpenSpec.ofChange codeMoreSpec)) codeMoreCard

/-- THE TIED CARD OF 'parallaxlaw08.CodeIdle'. -/
def codeIdleCard : Claim7 := { stood := { row := codeIdleRow, standIns := [], harness := (true, "7f957c12a6fb5a816c0040a82ffb34a422ad49995ca7e801d5d39dbd160ba5d1"), looks := false }, kinds := [], alts := [], laidByText := true, laidKinds := [.data, .data], laidTests := true, laidLooks := .later }
def CodeIdleCardSaid : Prop := Claim7.holds Tryd.pinned (.plain (OpenSpec.ofChange codeIdleSpec)) codeIdleCard

/-- THE TIED CARD OF 'parallaxlaw08.CodeLong'. -/
def codeLongCard : Claim7 := { stood := { row := codeLongRow, standIns := [], harness := (true, "7f957c12a6fb5a816c0040a82ffb34a422ad49995ca7e801d5d39dbd160ba5d1"), looks := false }, kinds := [], alts := [], laidByText := true, laidKinds := [.data, .data], laidTests := true, laidLooks := .later }
def CodeLongCardSaid : Prop := Claim7.holds Tryd.pinned (.plain (OpenSpec.ofChange codeLongSpec)) codeLongCard

/-- THE TIED CARD OF 'parallaxlaw10.PeepMakes'. -/
def peepMakesCard : Claim7 := { stood := { row := peepMakesRow, standIns := [], harness := (true, "7f957c12a6fb5a816c0040a82ffb34a422ad49995ca7e801d5d39dbd160ba5d1"), looks := false }, kinds := [], alts := [], laidByText := true, laidKinds := [.data, .data], laidTests := true, laidLooks := .later }
def PeepMakesCardSaid : Prop := Claim7.holds Tryd.pinned (.plain (OpenSpec.ofChange peepMakesSpec)) peepMakesCard

/-- THE TIED CARD OF 'parallaxlaw10.PeepSound'. -/
def peepSoundCard : Claim7 := { stood := { row := peepSoundRow, standIns := [], harness := (true, "7f957c12a6fb5a816c0040a82ffb34a422ad49995ca7e801d5d39dbd160ba5d1"), looks := false }, kinds := [], alts := [], laidByText := true, laidKinds := [.data, .data], laidTests := true, laidLooks := .later }
def PeepSoundCardSaid : Prop := Claim7.holds Tryd.pinned (.plain (OpenSpec.ofChange peepSoundSpec)) peepSoundCard

/-- THE TIED CARD OF 'parallaxlaw10.PeepTwice'. -/
def peepTwiceCard : Claim7 := { stood := { row := peepTwiceRow, standIns := [], harness := (true, "7f957c12a6fb5a816c0040a82ffb34a422ad49995ca7e801d5d39dbd160ba5d1"), looks := false }, kinds := [], alts := [], laidByText := true, laidKinds := [.data, .data], laidTests := true, laidLooks := .later }
def PeepTwiceCardSaid : Prop := Claim7.holds Tryd.pinned (.plain (OpenSpec.ofChange peepTwiceSpec)) peepTwiceCard

/-- THE TIED CARD OF 'parallaxlaw09.VmMore'. -/
def vmMoreCard : Claim7 := { stood := { row := vmMoreRow, standIns := [], harness := (true, "7f957c12a6fb5a816c0040a82ffb34a422ad49995ca7e801d5d39dbd160ba5d1"), looks := false }, kinds := [], alts := [], laidByText := true, laidKinds := [.data, .data], laidTests := true, laidLooks := .later }
def VmMoreCardSaid : Prop := Claim7.holds Tryd.pinned (.plain (OpenSpec.ofChange vmMoreSpec)) vmMoreCard

/-- THE TIED CARD OF 'parallaxlaw09.VmDeep'. -/
def vmDeepCard : Claim7 := { stood := { row := vmDeepRow, standIns := [], harness := (true, "7f957c12a6fb5a816c0040a82ffb34a422ad49995ca7e801d5d39dbd160ba5d1"), looks := false }, kinds := [], alts := [], laidByText := true, laidKinds := [.data, .data], laidTests := true, laidLooks := .later }
def VmDeepCardSaid : Prop := Claim7.holds Tryd.pinned (.plain (OpenSpec.ofChange vmDeepSpec)) vmDeepCard

/-- THE TIED CARD OF 'parallaxlaw10.PeepOwn'. -/
def peepOwnCard : Claim7 := { stood := { row := peepOwnRow, standIns := [], harness := (true, "7f957c12a6fb5a816c0040a82ffb34a422ad49995ca7e801d5d39dbd160ba5d1"), looks := false }, kinds := [], alts := [], laidByText := true, laidKinds := [.data, .data], laidTests := true, laidLooks := .later }
def PeepOwnCardSaid : Prop := Claim7.holds Tryd.pinned (.plain (OpenSpec.ofChange peepOwnSpec)) peepOwnCard

/-- THE TIED CARD OF 'parallaxlaw09.VmEnds'. -/
def vmEndsCard : Claim7 := { stood := { row := vmEndsRow, standIns := [], harness := (true, "7f957c12a6fb5a816c0040a82ffb34a422ad49995ca7e801d5d39dbd160ba5d1"), looks := false }, kinds := [], alts := [], laidByText := true, laidKinds := [.data, .data], laidTests := true, laidLooks := .later }
def VmEndsCardSaid : Prop := Claim7.holds Tryd.pinned (.plain (OpenSpec.ofChange vmEndsSpec)) vmEndsCard

/-- THE TIED CARD OF 'parallaxlaw09.VmRuns'. -/
def vmRunsCard : Claim7 := { stood := { row := vmRunsRow, standIns := [], harness := (true, "7f957c12a6fb5a816c0040a82ffb34a422ad49995ca7e801d5d39dbd160ba5d1"), looks := false }, kinds := [], alts := [], laidByText := true, laidKinds := [.data, .data], laidTests := true, laidLooks := .later }
def VmRunsCardSaid : Prop := Claim7.holds Tryd.pinned (.plain (OpenSpec.ofChange vmRunsSpec)) vmRunsCard

/-- THE TIED CARD OF 'parallaxlaw09.VmOwn'. -/
def vmOwnCard : Claim7 := { stood := { row := vmOwnRow, standIns := [], harness := (true, "7f957c12a6fb5a816c0040a82ffb34a422ad49995ca7e801d5d39dbd160ba5d1"), looks := false }, kinds := [], alts := [], laidByText := true, laidKinds := [.data, .data], laidTests := true, laidLooks := .later }
def VmOwnCardSaid : Prop := Claim7.holds Tryd.pinned (.plain (OpenSpec.ofChange vmOwnSpec)) vmOwnCard

/-- THE TIED CARD OF 'parallaxlaw09.VmCopies'. -/
def vmCopiesCard : Claim7 := { stood := { row := vmCopiesRow, standIns := [], harness := (true, "7f957c12a6fb5a816c0040a82ffb34a422ad49995ca7e801d5d39dbd160ba5d1"), looks := false }, kinds := [], alts := [], laidByText := true, laidKinds := [.data, .data], laidTests := true, laidLooks := .later }
def VmCopiesCardSaid : Prop := Claim7.holds Tryd.pinned (.plain (OpenSpec.ofChange vmCopiesSpec)) vmCopiesCard

/-- THE TIED CARD OF 'parallaxlaw09.VmNil'. -/
def vmNilCard : Claim7 := { stood := { row := vmNilRow, standIns := [], harness := (true, "7f957c12a6fb5a816c0040a82ffb34a422ad49995ca7e801d5d39dbd160ba5d1"), looks := false }, kinds := [], alts := [], laidByText := true, laidKinds := [.data, .data], laidTests := true, laidLooks := .later }
def VmNilCardSaid : Prop := Claim7.holds Tryd.pinned (.plain (OpenSpec.ofChange vmNilSpec)) vmNilCard

/-- THE TIED CARD OF 'parallaxlaw10.PeepSame'. -/
def peepSameCard : Claim7 := { stood := { row := peepSameRow, standIns := [], harness := (true, "7f957c12a6fb5a816c0040a82ffb34a422ad49995ca7e801d5d39dbd160ba5d1"), looks := false }, kinds := [], alts := [], laidByText := true, laidKinds := [.data, .data], laidTests := true, laidLooks := .later }
def PeepSameCardSaid : Prop := Claim7.holds Tryd.pinned (.plain (OpenSpec.ofChange peepSameSpec)) peepSameCard

/-- THE SECOND FORM's CARD OF 'parallaxlaw08.CodePrints'. -/
def codePrintsUptoCard : Claim7 := { stood := { row := codePrintsUptoRow, standIns := [], harness := (true, "7f957c12a6fb5a816c0040a82ffb34a422ad49995ca7e801d5d39dbd160ba5d1"), looks := false }, kinds := [], alts := [], laidByText := true, laidKinds := [.data, .data], laidTests := true, laidLooks := .later }
def CodePrintsUptoCardSaid : Prop := Claim7.holds Tryd.pinned (.plain (OpenSpec.upto codePrintsSpec)) codePrintsUptoCard

/-- THE SECOND FORM's CARD OF 'parallaxlaw08.CodeBack'. -/
def codeBackUptoCard : Claim7 := { stood := { row := codeBackUptoRow, standIns := [], harness := (true, "7f957c12a6fb5a816c0040a82ffb34a422ad49995ca7e801d5d39dbd160ba5d1"), looks := false }, kinds := [], alts := [], laidByText := true, laidKinds := [.data, .data], laidTests := true, laidLooks := .later }
def CodeBackUptoCardSaid : Prop := Claim7.holds Tryd.pinned (.plain (OpenSpec.upto codeBackSpec)) codeBackUptoCard

/-- THE SECOND FORM's CARD OF 'parallaxlaw08.CodeMore'. -/
def codeMoreUptoCard : Claim7 := { stood := { row := codeMoreUptoRow, standIns := [], harness := (true, "7f957c12a6fb5a816c0040a82ffb34a422ad49995ca7e801d5d39dbd160ba5d1"), looks := false }, kinds := [], alts := [], laidByText := true, laidKinds := [.data, .data], laidTests := true, laidLooks := .later }
def CodeMoreUptoCardSaid : Prop := Claim7.holds Tryd.pinned (.plain (OpenSpec.upto codeMoreSpec)) codeMoreUptoCard

/-- THE SECOND FORM's CARD OF 'parallaxlaw08.CodeIdle'. -/
def codeIdleUptoCard : Claim7 := { stood := { row := codeIdleUptoRow, standIns := [], harness := (true, "7f957c12a6fb5a816c0040a82ffb34a422ad49995ca7e801d5d39dbd160ba5d1"), looks := false }, kinds := [], alts := [], laidByText := true, laidKinds := [.data, .data], laidTests := true, laidLooks := .later }
def CodeIdleUptoCardSaid : Prop := Claim7.holds Tryd.pinned (.plain (OpenSpec.upto codeIdleSpec)) codeIdleUptoCard

/-- THE SECOND FORM's CARD OF 'parallaxlaw08.CodeLong'. -/
def codeLongUptoCard : Claim7 := { stood := { row := codeLongUptoRow, standIns := [], harness := (true, "7f957c12a6fb5a816c0040a82ffb34a422ad49995ca7e801d5d39dbd160ba5d1"), looks := false }, kinds := [], alts := [], laidByText := true, laidKinds := [.data, .data], laidTests := true, laidLooks := .later }
def CodeLongUptoCardSaid : Prop := Claim7.holds Tryd.pinned (.plain (OpenSpec.upto codeLongSpec)) codeLongUptoCard

/-- THE SECOND FORM's CARD OF 'parallaxlaw10.PeepMakes'. -/
def peepMakesUptoCard : Claim7 := { stood := { row := peepMakesUptoRow, standIns := [], harness := (true, "7f957c12a6fb5a816c0040a82ffb34a422ad49995ca7e801d5d39dbd160ba5d1"), looks := false }, kinds := [], alts := [], laidByText := true, laidKinds := [.data, .data], laidTests := true, laidLooks := .later }
def PeepMakesUptoCardSaid : Prop := Claim7.holds Tryd.pinned (.plain (OpenSpec.upto peepMakesSpec)) peepMakesUptoCard

/-- THE SECOND FORM's CARD OF 'parallaxlaw10.PeepSound'. -/
def peepSoundUptoCard : Claim7 := { stood := { row := peepSoundUptoRow, standIns := [], harness := (true, "7f957c12a6fb5a816c0040a82ffb34a422ad49995ca7e801d5d39dbd160ba5d1"), looks := false }, kinds := [], alts := [], laidByText := true, laidKinds := [.data, .data], laidTests := true, laidLooks := .later }
def PeepSoundUptoCardSaid : Prop := Claim7.holds Tryd.pinned (.plain (OpenSpec.upto peepSoundSpec)) peepSoundUptoCard

/-- THE SECOND FORM's CARD OF 'parallaxlaw10.PeepTwice'. -/
def peepTwiceUptoCard : Claim7 := { stood := { row := peepTwiceUptoRow, standIns := [], harness := (true, "7f957c12a6fb5a816c0040a82ffb34a422ad49995ca7e801d5d39dbd160ba5d1"), looks := false }, kinds := [], alts := [], laidByText := true, laidKinds := [.data, .data], laidTests := true, laidLooks := .later }
def PeepTwiceUptoCardSaid : Prop := Claim7.holds Tryd.pinned (.plain (OpenSpec.upto peepTwiceSpec)) peepTwiceUptoCard

/-- THE SECOND FORM's CARD OF 'parallaxlaw09.VmMore'. -/
def vmMoreUptoCard : Claim7 := { stood := { row := vmMoreUptoRow, standIns := [], harness := (true, "7f957c12a6fb5a816c0040a82ffb34a422ad49995ca7e801d5d39dbd160ba5d1"), looks := false }, kinds := [], alts := [], laidByText := true, laidKinds := [.data, .data], laidTests := true, laidLooks := .later }
def VmMoreUptoCardSaid : Prop := Claim7.holds Tryd.pinned (.plain (OpenSpec.upto vmMoreSpec)) vmMoreUptoCard

/-- THE SECOND FORM's CARD OF 'parallaxlaw09.VmDeep'. -/
def vmDeepUptoCard : Claim7 := { stood := { row := vmDeepUptoRow, standIns := [], harness := (true, "7f957c12a6fb5a816c0040a82ffb34a422ad49995ca7e801d5d39dbd160ba5d1"), looks := false }, kinds := [], alts := [], laidByText := true, laidKinds := [.data, .data], laidTests := true, laidLooks := .later }
def VmDeepUptoCardSaid : Prop := Claim7.holds Tryd.pinned (.plain (OpenSpec.upto vmDeepSpec)) vmDeepUptoCard

/-- THE SECOND FORM's CARD OF 'parallaxlaw10.PeepOwn'. -/
def peepOwnUptoCard : Claim7 := { stood := { row := peepOwnUptoRow, standIns := [], harness := (true, "7f957c12a6fb5a816c0040a82ffb34a422ad49995ca7e801d5d39dbd160ba5d1"), looks := false }, kinds := [], alts := [], laidByText := true, laidKinds := [.data, .data], laidTests := true, laidLooks := .later }
def PeepOwnUptoCardSaid : Prop := Claim7.holds Tryd.pinned (.plain (OpenSpec.upto peepOwnSpec)) peepOwnUptoCard

/-- THE SECOND FORM's CARD OF 'parallaxlaw09.VmEnds'. -/
def vmEndsUptoCard : Claim7 := { stood := { row := vmEndsUptoRow, standIns := [], harness := (true, "7f957c12a6fb5a816c0040a82ffb34a422ad49995ca7e801d5d39dbd160ba5d1"), looks := false }, kinds := [], alts := [], laidByText := true, laidKinds := [.data, .data], laidTests := true, laidLooks := .later }
def VmEndsUptoCardSaid : Prop := Claim7.holds Tryd.pinned (.plain (OpenSpec.upto vmEndsSpec)) vmEndsUptoCard

/-- THE SECOND FORM's CARD OF 'parallaxlaw09.VmRuns'. -/
def vmRunsUptoCard : Claim7 := { stood := { row := vmRunsUptoRow, standIns := [], harness := (true, "7f957c12a6fb5a816c0040a82ffb34a422ad49995ca7e801d5d39dbd160ba5d1"), looks := false }, kinds := [], alts := [], laidByText := true, laidKinds := [.data, .data], laidTests := true, laidLooks := .later }
def VmRunsUptoCardSaid : Prop := Claim7.holds Tryd.pinned (.plain (OpenSpec.upto vmRunsSpec)) vmRunsUptoCard

/-- THE SECOND FORM's CARD OF 'parallaxlaw09.VmOwn'. -/
def vmOwnUptoCard : Claim7 := { stood := { row := vmOwnUptoRow, standIns := [], harness := (true, "7f957c12a6fb5a816c0040a82ffb34a422ad49995ca7e801d5d39dbd160ba5d1"), looks := false }, kinds := [], alts := [], laidByText := true, laidKinds := [.data, .data], laidTests := true, laidLooks := .later }
def VmOwnUptoCardSaid : Prop := Claim7.holds Tryd.pinned (.plain (OpenSpec.upto vmOwnSpec)) vmOwnUptoCard

/-- THE SECOND FORM's CARD OF 'parallaxlaw09.VmCopies'. -/
def vmCopiesUptoCard : Claim7 := { stood := { row := vmCopiesUptoRow, standIns := [], harness := (true, "7f957c12a6fb5a816c0040a82ffb34a422ad49995ca7e801d5d39dbd160ba5d1"), looks := false }, kinds := [], alts := [], laidByText := true, laidKinds := [.data, .data], laidTests := true, laidLooks := .later }
def VmCopiesUptoCardSaid : Prop := Claim7.holds Tryd.pinned (.plain (OpenSpec.upto vmCopiesSpec)) vmCopiesUptoCard

/-- THE SECOND FORM's CARD OF 'parallaxlaw09.VmNil'. -/
def vmNilUptoCard : Claim7 := { stood := { row := vmNilUptoRow, standIns := [], harness := (true, "7f957c12a6fb5a816c0040a82ffb34a422ad49995ca7e801d5d39dbd160ba5d1"), looks := false }, kinds := [], alts := [], laidByText := true, laidKinds := [.data, .data], laidTests := true, laidLooks := .later }
def VmNilUptoCardSaid : Prop := Claim7.holds Tryd.pinned (.plain (OpenSpec.upto vmNilSpec)) vmNilUptoCard

/-- THE SECOND FORM's CARD OF 'parallaxlaw10.PeepSame'. -/
def peepSameUptoCard : Claim7 := { stood := { row := peepSameUptoRow, standIns := [], harness := (true, "7f957c12a6fb5a816c0040a82ffb34a422ad49995ca7e801d5d39dbd160ba5d1"), looks := false }, kinds := [], alts := [], laidByText := true, laidKinds := [.data, .data], laidTests := true, laidLooks := .later }
def PeepSameUptoCardSaid : Prop := Claim7.holds Tryd.pinned (.plain (OpenSpec.upto peepSameSpec)) peepSameUptoCard
end Rows
end Go.Proofs.YthiflgncldmkjaaDoor
