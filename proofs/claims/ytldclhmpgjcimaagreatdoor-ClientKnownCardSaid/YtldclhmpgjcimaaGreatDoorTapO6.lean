/- taprootlaw25.ClientKnown returns true: the tied card. No condition. -/
import Derived.Test.YtldclhmpgjcimaaGreatDoorTapO5
import Derived.Test.YtldclhmpgjcimaaGreatDoorTapO8
import Derived.Test.YtldclhmpgjcimaaGreatDoorTapO9
import Derived.Test.YtldclhmpgjcimaaGreatDoorTie
import Derived.Test.YtldclhmpgjcimaaGreatDoorCards
import Derived.SevenTiedAt
namespace Go.Proofs.YtldclhmpgjcimaaGreatDoor
open Go

theorem clientKnown_holds : Rows.ClientKnownCardSaid :=
  Claim7.holds_tied_plain_at .later [] [.data, .data, .data, .handle, .sentinel, .sentinel] true (true, "7ebb578a17cd488f401ec4bb6e2f951def59b069d61c69951f4fcc635b3a9000") true
    ckHolds (fun _ h => by cases h) ckC0 (fun _ h => by cases h) clientKnown_row_tie rfl ⟨rfl, rfl⟩ ckC1 rfl
    (fun f fn hf hfn => by
      obtain rfl : f = 8 := Option.some.inj (ckC2.symm.trans hf) |>.symm
      obtain rfl : fn = Tryz.f8 := (Option.some.inj (Tryz.func8.symm.trans hfn)).symm
      exact ⟨ckC3, fun j t ht => by
        rw [Tryz.params8] at ht
        simp at ht⟩)
    ckC4
#print axioms clientKnown_holds
end Go.Proofs.YtldclhmpgjcimaaGreatDoor
