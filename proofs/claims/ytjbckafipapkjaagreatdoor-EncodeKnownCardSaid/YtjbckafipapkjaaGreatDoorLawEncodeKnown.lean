/- EncodeKnown holds for every input (it has none), of a program whose package variables start as its text lays them; no other conditions. -/
import Derived.Test.YtjbckafipapkjaaGreatDoorLawEncodeKnownR
import Derived.Test.YtjbckafipapkjaaGreatDoorTie
import Derived.Test.YtjbckafipapkjaaGreatDoorCards
import Derived.SevenTiedAt
import Derived.Stop.Joined
set_option linter.unusedSimpArgs false
set_option linter.unusedVariables false
namespace Go.Proofs.YtjbckafipapkjaaGreatDoor
open Go.Ev Go.ChangeShapes Go.WideShapes Go.ChangeAt Go.RowKit
namespace Ev
theorem encodeKnown_holds : Rows.EncodeKnownCardSaid :=
  Claim7.holds_tied_plain_at .later [] [.data, .data, .data, .data, .sentinel, .sentinel, .listed, .data, .pinned] true (true, "80b613530316c5e555f192e2c9c4a445c2b2fd3652c28d5ac126fd83f872205c") true encodeKnown_row (fun _ h => by cases h) (by kernel_rfl) (fun _ h => by cases h) encodeKnown_row_tie rfl ⟨rfl, rfl⟩ (by kernel_rfl) rfl
    (fun f fn hf hfn => by
      obtain rfl : f = 4 := Option.some.inj ((show Tryz.prog.funcNamed "linotype/linotypelaw20.EncodeKnown" = some 4 by kernel_rfl).symm.trans hf) |>.symm
      obtain rfl : fn = Tryz.f4 := (Option.some.inj (Tryz.func4.symm.trans hfn)).symm
      exact ⟨cLooks, fun j t ht => by
        rw [Tryz.params4] at ht
        have hm : t ∈ ([] : List TypeId) := by simpa using Array.mem_of_getElem? ht
        cases hm⟩)
    cGoes
#print axioms encodeKnown_holds

end Ev
end Go.Proofs.YtjbckafipapkjaaGreatDoor
