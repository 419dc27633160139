/- TableKnown holds for every input (it has none), of a program whose package variables start as its text lays them; no other conditions. -/
import Derived.Test.YtjbckafipapkjaaGreatDoorLawTableKnownR
import Derived.Test.YtjbckafipapkjaaGreatDoorTie
import Derived.Test.YtjbckafipapkjaaGreatDoorCards
import Derived.SevenTiedAt
import Derived.Stop.Joined
set_option linter.unusedSimpArgs false
set_option linter.unusedVariables false
namespace Go.Proofs.YtjbckafipapkjaaGreatDoor
open Go.Ev Go.ChangeShapes Go.WideShapes Go.ChangeAt Go.RowKit
namespace Ev
theorem tableKnown_holds : Rows.TableKnownCardSaid :=
  Claim7.holds_tied_plain_at .later [] [.data, .data, .data, .data, .sentinel, .sentinel, .listed, .data, .pinned] true (true, "80b613530316c5e555f192e2c9c4a445c2b2fd3652c28d5ac126fd83f872205c") true tableKnown_row (fun _ h => by cases h) (by kernel_rfl) (fun _ h => by cases h) tableKnown_row_tie rfl ⟨rfl, rfl⟩ (by kernel_rfl) rfl
    (fun f fn hf hfn => by
      obtain rfl : f = 3 := Option.some.inj ((show Tryz.prog.funcNamed "linotype/linotypelaw19.TableKnown" = some 3 by kernel_rfl).symm.trans hf) |>.symm
      obtain rfl : fn = Tryz.f3 := (Option.some.inj (Tryz.func3.symm.trans hfn)).symm
      exact ⟨cLooks, fun j t ht => by
        rw [Tryz.params3] at ht
        have hm : t ∈ ([] : List TypeId) := by simpa using Array.mem_of_getElem? ht
        cases hm⟩)
    cGoes
#print axioms tableKnown_holds

end Ev
end Go.Proofs.YtjbckafipapkjaaGreatDoor
