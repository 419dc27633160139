/- The law TableApart in the evaluator: its hooks, its run; no theorem of the program yet; no conditions. -/
import Derived.Test.YtcibejieeieknaaGreatDoorTqR
import Derived.Test.YtcibejieeieknaaGreatDoorTpN
set_option linter.unusedSimpArgs false
set_option linter.unusedVariables false
namespace Go.Proofs.YtcibejieeieknaaGreatDoor
open Go.Ev
namespace Ev
/-! ### Rows by a number that is not told -/
noncomputable def okSl (h : H) : AV → List Int → Bool
  | .nils, [] => true
  | .slc id off n _ _ es, z :: zs => Nat.beq n (z :: zs).length && (Nat.beq es 1 && (match rd h id off (z :: zs).length with
    | .ok cs => avsBeq cs ((z :: zs).map ii)
    | _ => false))
  | _, _ => false
noncomputable def okRow (h : H) (r : Row) : List AV → Bool
  | [x0, s1, s2, x3, x4, x5, x6, x7, x8, x9] => x0.beq (ii r.op) && (okSl h s1 r.sh && (okSl h s2 r.sl && (x3.beq (ii r.pre) && (x4.beq (ii r.map) && (x5.beq (ii r.code) && (x6.beq (ii r.digit) && (x7.beq (ii r.w) && (x8.beq (.bool (.lit r.vex)) && x9.beq (ii r.l)))))))))
  | _ => false
def heads : List (List AV) → Option (List AV)
  | [] => some []
  | [] :: _ => none
  | (c :: _) :: r => match heads r with
    | some l => some (c :: l)
    | none => none
def tails (l : List (List AV)) : List (List AV) := l.map List.tail
noncomputable def okCols (h : H) : List Row → List (List AV) → Bool
  | [], cols => cols.all List.isEmpty
  | r :: rs, cols => match heads cols with
    | some hs => okRow h r hs && okCols h rs (tails cols)
    | none => false
/-- Columns, picked by one number. -/
noncomputable def picksOf (e : SE) : List AV → Option (List (List AV))
  | [] => some []
  | .pick c x :: r => bif x.beq e then (match picksOf e r with
    | some l => some (c :: l)
    | none => none) else none
  | _ => none
noncomputable def exprOf : List AV → Option SE
  | .pick _ x :: _ => some x
  | _ => none
noncomputable def tabOf (h : H) (ps : List AV) : Option SE :=
  match exprOf ps with
  | some e => (match picksOf e ps with
    | some cols => bif okCols h tabR cols then some e else none
    | none => none)
  | none => none
noncomputable def checkT : PC → List AV → H → Res (AV × H) := fun _ args h =>
  match args with
  | [.agg ps] => (match tabOf h ps with
    | some _ => .ok (ii 0, h)
    | none => .fail "Check: no row of the table")
  | _ => .fail "Check"
noncomputable def meetsT : PC → List AV → H → Res (AV × H) := fun _ args h =>
  match args with
  | [.agg ps, .agg qs] => (match tabOf h ps, tabOf h qs with
    | some e, some f => .ok (.bool (.eq e f), h)
    | _, _ => .fail "Meets: no rows of the table")
  | _ => .fail "Meets"

noncomputable def XApart : Hooks := ((((X0.with 11 (sumTab gl t11)).with 13 (sumTab gl t13)).with 14 pickS).with 16 checkT).with 17 meetsT
def eP (i : Nat) : SE := .app 0 (.cons (.var i) (.cons (.lit (.ofNat 834)) .nil))
def pcApart (t : Bool) : PC := [(.eq (eP 0) (eP 1), t), (.eq (eP 1) (eP 0), t), (.le (.lit (.ofNat 0)) (eP 0), true), (.lt (eP 0) (.lit (.ofNat 834)), true), (.le (.lit (.ofNat 0)) (eP 1), true), (.lt (eP 1) (.lit (.ofNat 834)), true)]
def pcsApart : List PC := [pcApart true, pcApart false]
end Ev
end Go.Proofs.YtcibejieeieknaaGreatDoor
