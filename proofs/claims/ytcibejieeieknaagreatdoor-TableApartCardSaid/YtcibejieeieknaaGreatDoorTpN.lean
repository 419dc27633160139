/- table.Meets of two forms of the table, by numbers that are not told; which forms of the table meet; no conditions. -/
import Derived.Test.YtcibejieeieknaaGreatDoorTpM
set_option linter.unusedSimpArgs false
set_option linter.unusedVariables false
namespace Go.Proofs.YtcibejieeieknaaGreatDoor
open Go.Ev
namespace Ev
noncomputable def chkN (pc : PC) (v : AV) (_ : H) : Bool :=
  match v with
  | .bool (.lit b) => isSome b (dec pc (.and apK (.not apart)))
  | _ => false
/-- The answer, decided. -/
noncomputable def told (pc : PC) (r : Res (AV × H)) : Res (AV × H) := r.bind fun x => match x.1 with
  | .bool s => (decR pc s).bind fun t => .ok (.bool (.lit t), x.2)
  | _ => .fail "no test"
set_option maxRecDepth 100000 in
theorem mR : auto chkN (fun pc => told pc (run Tryz.prog XMt pc 4000 17 [rowA, rowB] H2)) 40 [] = true := by kernel_rfl

/-! ### Which forms meet -/
def preB (a b : Row) : Bool := (a.vex == b.vex) && (intBeq a.pre b.pre && (intBeq a.map b.map && (intBeq a.l b.l && (intBeq a.w b.w || (intBeq a.w (-1) || intBeq b.w (-1))))))
def K2 (sA sB : Bool) (d : Int) : Bool := (bif sA then decide (d ≤ 0) && decide (-7 ≤ d) else intBeq d 0) || (bif sB then decide (0 ≤ d) && decide (d ≤ 7) else intBeq d 0)
def keysB (a b : Row) : Bool := preB a b && K2 (cdI a) (cdI b) (a.code - b.code)
def apB (a b : Row) : Bool := (modI a && modI b) && (((decide (0 ≤ a.digit) && decide (0 ≤ b.digit)) && !(intBeq a.digit b.digit)) || ((regI a && plI b) || (plI a && regI b)))
def meetsB (a b : Row) : Bool := keysB a b && !(apB a b)
def row2 (a : Row) (i : Nat) : List Row → Nat → Bool
  | [], _ => true
  | b :: r, k => (meetsB a b == Nat.beq i k) && row2 a i r (k + 1)
noncomputable def all2 : List Row → Nat → Bool
  | [], _ => true
  | a :: r, i => row2 a i tabR 0 && all2 r (i + 1)
end Ev
end Go.Proofs.YtcibejieeieknaaGreatDoor
