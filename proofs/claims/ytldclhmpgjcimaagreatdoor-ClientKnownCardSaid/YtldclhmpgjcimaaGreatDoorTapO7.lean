/- The closed facts on the row of ClientKnown, one by one. -/
import Derived.Test.YtldclhmpgjcimaaGreatDoorRows
import Derived.ProofKit
import Derived.Stop.Joined
namespace Go.Proofs.YtldclhmpgjcimaaGreatDoor
open Go
set_option maxRecDepth 100000
theorem both {a b : Bool} (h : a = true) (k : b = true) : (a && b) = true := by rw [h, k]; rfl
theorem ckJ0 : (Rows.clientKnownRow.wf (OpenSpec.ofChange Rows.clientKnownSpec)) = true := by kernel_rfl
theorem ckJ1 : (laidOutB Tryz.prog) = true := by kernel_rfl
theorem ckJ2 : (mapsRowed Tryz.prog) = true := by kernel_rfl
theorem ckJ3 : (Tryz.f8.params.all (Tryz.prog.readableRec ·)) = true := by kernel_rfl
theorem ckJ4 : (namedTie Tryz.prog Rows.clientKnownRow.named Rows.clientKnownSpec.vars) = true := by kernel_rfl
theorem ckJ5 : ((Rows.clientKnownRow.stops == [])) = true := by kernel_rfl
theorem ckJ6 : ((Tryz.prog.stops == [])) = true := by kernel_rfl
theorem ckJ7 : ((Rows.clientKnownRow.knobs == [])) = true := by kernel_rfl
theorem ckJ8 : ((Tryz.prog.stopKnobs == [])) = true := by kernel_rfl
theorem ckJ9 : ((Rows.clientKnownRow.inPlace == Tryz.prog.inPlace 8)) = true := by kernel_rfl
theorem ckJ10 : ((Rows.clientKnownRow.unfollowed == Tryz.prog.unfollowed 8)) = true := by kernel_rfl
theorem ckJ11 : ((Rows.clientKnownRow.recurses == Tryz.prog.recurses 8)) = true := by kernel_rfl
theorem ckJ12 : ((Rows.clientKnownRow.named == Tryz.prog.varsNamed 8)) = true := by kernel_rfl
theorem ckJ13 : ((Rows.clientKnownRow.maps == (Tryz.f8.params.toList ++ Rows.clientKnownSpec.plain.varTypes Tryz.prog).any (Tryz.prog.mapsRec ·))) = true := by kernel_rfl
theorem ckJ14 : ((Rows.clientKnownRow.ifaces == (Tryz.f8.params.toList ++ Rows.clientKnownSpec.plain.varTypes Tryz.prog).any (Tryz.prog.ifacesRec ·))) = true := by kernel_rfl
theorem ckJ15 : ((Rows.clientKnownRow.mapsOut == Tryz.prog.mapsAmong Tryz.f8.resultTypes.toList)) = true := by kernel_rfl
theorem ckJ16 : ((Rows.clientKnownRow.loops == (Tryz.f8.params.toList ++ Rows.clientKnownSpec.plain.varTypes Tryz.prog).any (Tryz.prog.loopsFrom ·))) = true := by kernel_rfl
theorem ckJ17 : ((Rows.clientKnownRow.wideKeys == (Tryz.f8.params.toList ++ Rows.clientKnownSpec.plain.varTypes Tryz.prog ++ Tryz.f8.resultTypes.toList).any (Tryz.prog.wideKeysFrom ·))) = true := by kernel_rfl
theorem ckJ18 : (Rows.clientKnownSpec.vars.all (Tryz.prog.varReadable ·)) = true := by kernel_rfl
theorem ckJ19 : (Tryz.f8.resultTypes.all (fun t => Tryz.prog.readableRec t && decide (t < Tryz.prog.types.size))) = true := by kernel_rfl
theorem ckJ20 : ((Rows.clientKnownRow.ifacesOut == Tryz.f8.resultTypes.toList.any (Tryz.prog.ifacesRec ·))) = true := by kernel_rfl
theorem ckJ21 : ((Rows.clientKnownRow.loopsOut == Tryz.f8.resultTypes.toList.any (Tryz.prog.loopsFrom ·))) = true := by kernel_rfl
theorem ckJ22 : ((Rows.clientKnownRow.plainKeys == Tryz.prog.plainKeys)) = true := by kernel_rfl
theorem ckJ23 : (Rows.clientKnownRow.shortTexts.isNone) = true := by kernel_rfl
theorem ckJ24 : (Tryz.prog.stopsHeard) = true := by kernel_rfl
theorem ckJ25 : (Tryz.prog.mayEnter) = true := by kernel_rfl
theorem ckJ26 : ((Rows.clientKnownRow.lifted == Tryz.prog.liftsFinal)) = true := by kernel_rfl
theorem ckJ27 : ((Tryz.prog.make == some Rows.clientKnownRow.make)) = true := by kernel_rfl
theorem ckJ28 : ((Rows.clientKnownRow.kinds == (if Rows.clientKnownRow.domain.isEmpty then [] else Tryz.f8.params.toList.map fun t => match Tryz.prog.underlying t with | some (.int k) => some k | _ => none))) = true := by kernel_rfl
theorem ckJ29 : ((Rows.clientKnownRow.pinned == Rows.clientKnownRow.pinnedBy)) = true := by kernel_rfl
theorem ckJ30 : ((Rows.clientKnownRow.veiled == (Tryz.f8.params.toList ++ Rows.clientKnownSpec.plain.varTypes Tryz.prog ++ Tryz.f8.resultTypes.toList).any (Tryz.prog.veiledRec ·))) = true := by kernel_rfl
theorem ckJ31 : (Rows.clientKnownRow.veiledFits Tryz.prog Tryz.f8.params.toList (Tryz.f8.params.toList ++ Rows.clientKnownSpec.plain.varTypes Tryz.prog ++ Tryz.f8.resultTypes.toList)) = true := by kernel_rfl
theorem ckJoined : joinedFacts Tryz.prog 8 Tryz.f8 Rows.clientKnownSpec Rows.clientKnownRow = true := (both (both (both (both (both (both (both (both (both (both (both (both (both (both (both (both (both (both (both (both (both (both (both (both (both (both (both (both (both (both (both ckJ0 ckJ1) ckJ2) ckJ3) ckJ4) ckJ5) ckJ6) ckJ7) ckJ8) ckJ9) ckJ10) ckJ11) ckJ12) ckJ13) ckJ14) ckJ15) ckJ16) ckJ17) ckJ18) ckJ19) ckJ20) ckJ21) ckJ22) ckJ23) ckJ24) ckJ25) ckJ26) ckJ27) ckJ28) ckJ29) ckJ30) ckJ31)
end Go.Proofs.YtldclhmpgjcimaaGreatDoor
