/- Two forms of the table, by numbers that are not told: what the functions are asked of them; no theorem of the program yet; no conditions. -/
import Derived.Test.YtcibejieeieknaaGreatDoorTpR
set_option linter.unusedSimpArgs false
set_option linter.unusedVariables false
namespace Go.Proofs.YtcibejieeieknaaGreatDoor
open Go.Ev
namespace Ev
abbrev vr (i : Nat) : SE := .var i
abbrev li (n : Nat) : SE := .lit (.ofNat n)
abbrev i6 (e : SE) : AV := .int .i64 e
def ap1 (g : Nat) (e : SE) : SE := .app g (.cons e .nil)
/-- A slice of a form's: nil, or in block id. -/
def slP (f id fl : Nat) (e : SE) : AV := .pick [.nils, .slv id 0 0 (ap1 f e) 1] (vr fl)
def rowV (b id : Nat) (e : SE) : AV :=
  .agg [i6 (vr b), slP 40 id (b + 10) e, slP 41 (id + 1) (b + 11) e, i6 (vr (b + 3)), i6 (vr (b + 4)), i6 (vr (b + 5)), i6 (vr (b + 6)), i6 (vr (b + 7)), .bool (.eq (vr (b + 8)) (li 1)), i6 (vr (b + 9))]
abbrev rowA : AV := rowV 100 64 (vr 90)
abbrev rowB : AV := rowV 120 66 (vr 91)
noncomputable def H2 : H := ⟨68, (((T.nil.put 64 (.pickb 40 (vr 90))).put 65 (.pickb 41 (vr 90))).put 66 (.pickb 40 (vr 91))).put 67 (.pickb 41 (vr 91))⟩
noncomputable def isPb (f : Nat) (e : SE) : Option Blk → Bool
  | some (.pickb g x) => Nat.beq g f && x.beq e
  | _ => false
noncomputable def hasB (h : H) (id : Nat) (e : SE) : Bool := isPb 40 e (h.get id) && isPb 41 e (h.get (id + 1))
noncomputable def slEq (f id fl : Nat) (e : SE) : AV → Bool
  | .pick [.nils, .slv i 0 0 (.app g (.cons x .nil)) 1] (.var k) => Nat.beq i id && (Nat.beq g f && (x.beq e && Nat.beq k fl))
  | _ => false
noncomputable def rowEq (b id : Nat) (e : SE) : AV → Bool
  | .agg [x0, s1, s2, x3, x4, x5, x6, x7, x8, x9] => x0.beq (i6 (vr b)) && (slEq 40 id (b + 10) e s1 && (slEq 41 (id + 1) (b + 11) e s2 && (x3.beq (i6 (vr (b + 3))) && (x4.beq (i6 (vr (b + 4))) && (x5.beq (i6 (vr (b + 5))) &&
      (x6.beq (i6 (vr (b + 6))) && (x7.beq (i6 (vr (b + 7))) && (x8.beq (.bool (.eq (vr (b + 8)) (li 1))) && x9.beq (i6 (vr (b + 9)))))))))))
  | _ => false
noncomputable def isA (a : AV) (h : H) : Bool := rowEq 100 64 (vr 90) a && hasB h 64 (vr 90)
noncomputable def isB (a : AV) (h : H) : Bool := rowEq 120 66 (vr 91) a && hasB h 66 (vr 91)
noncomputable def rowS (g : Nat) : PC → List AV → H → Res (AV × H) := fun _ args h =>
  match args with
  | [a] => bif isA a h then .ok (.bool (.app g (.cons (vr 90) .nil)), h) else bif isB a h then .ok (.bool (.app g (.cons (vr 91) .nil)), h) else .fail "another form"
  | _ => .fail "a form"
noncomputable def codesS : PC → List AV → H → Res (AV × H) := fun _ args h =>
  match args with
  | [a, .int .i64 n] => bif isA a h then .ok (.bool (.app 35 (.cons (vr 90) (.cons n .nil))), h) else bif isB a h then .ok (.bool (.app 35 (.cons (vr 91) (.cons n .nil))), h) else .fail "another form"
  | _ => .fail "codes"
noncomputable def keysS : PC → List AV → H → Res (AV × H) := fun _ args h =>
  match args with
  | [a, b] => bif isA a h && isB b h then .ok (.bool (.app 33 (.cons (vr 90) (.cons (vr 91) .nil))), h) else .fail "other forms"
  | _ => .fail "keys"
noncomputable def XK : Hooks := Go.Ev.X0.with 54 codesS
noncomputable def XMt : Hooks := (((Go.Ev.X0.with 38 (rowS 30)).with 39 (rowS 31)).with 40 (rowS 32)).with 41 keysS

/-! ### keys -/
def nE (c i : Nat) : SE := .wrap .i64 (.add (vr c) (li i))
def pat (s : Bool) (d : Int) (i : Nat) : Bool := bif s then decide (d ≤ (i : Int)) && decide ((i : Int) ≤ d + 7) else decide ((i : Int) = d)
def cod (e n : SE) : SB := .app 35 (.cons e (.cons n .nil))
def factsI (sA sB : Bool) (d : Int) (i : Nat) : PC :=
  [(cod (vr 90) (nE 125 i), pat sA d i), (cod (vr 91) (nE 125 i), pat sB 0 i), (cod (vr 91) (nE 105 i), pat sB (-d) i), (cod (vr 90) (nE 105 i), pat sA 0 i)]
def factsK (sA sB : Bool) (d : Int) : PC := (List.range 8).flatMap (factsI sA sB d)
def patK (sA sB : Bool) (d : Int) : Bool := (List.range 8).any fun i => (pat sA d i && pat sB 0 i) || (pat sB (-d) i && pat sA 0 i)
def vA : SB := .eq (vr 108) (li 1)
def vB : SB := .eq (vr 128) (li 1)
def m1 : SE := .lit (.negSucc 0)
def preK : SB := .and (.not (.and (.not (.and vA vB)) (.not (.and (.not vA) (.not vB))))) (.and (.eq (vr 103) (vr 123)) (.and (.eq (vr 104) (vr 124)) (.and (.eq (vr 109) (vr 129))
  (.not (.and (.not (.eq (vr 107) (vr 127))) (.and (.not (.eq (vr 107) m1)) (.not (.eq (vr 127) m1))))))))
noncomputable def chkK (sA sB : Bool) (d : Int) (pc : PC) (v : AV) (_ : H) : Bool :=
  match v with
  | .bool (.lit b) => isSome b (dec pc (.and preK (.lit (patK sA sB d))))
  | _ => false
noncomputable def keysR (d : Int) : Bool := [false, true].all fun sA => [false, true].all fun sB => auto (chkK sA sB d) (fun pc => run Tryz.prog XK pc 4000 41 [rowA, rowB] H2) 40 (factsK sA sB d)

/-! ### Meets -/
def fA (g : Nat) : SB := .app g (.cons (vr 90) .nil)
def fB (g : Nat) : SB := .app g (.cons (vr 91) .nil)
def apK : SB := .app 33 (.cons (vr 90) (.cons (vr 91) .nil))
def orS (a b : SB) : SB := .not (.and (.not a) (.not b))
def apart : SB := .and (.and (fA 30) (fB 30)) (orS (orS (.and (.and (.le (li 0) (vr 106)) (.le (li 0) (vr 126))) (.not (.eq (vr 106) (vr 126)))) (.and (fA 31) (fB 32))) (.and (fA 32) (fB 31)))
noncomputable def chkM (pc : PC) (v : AV) (_ : H) : Bool :=
  match v with
  | .bool (.lit b) => isSome b (dec pc (.and apK (.not apart)))
  | .bool s => (match dec pc s with
    | some b => isSome b (dec pc (.and apK (.not apart)))
    | none => false)
  | _ => false
end Ev
end Go.Proofs.YtcibejieeieknaaGreatDoor
