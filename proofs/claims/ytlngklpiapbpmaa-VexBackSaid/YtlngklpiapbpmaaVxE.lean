/- Hooks and cases of VexBack; no theorem of the program yet; no conditions. -/
import Derived.Test.YtlngklpiapbpmaaVxC
set_option linter.unusedSimpArgs false
set_option linter.unusedVariables false
namespace Go.Proofs.Ytlngklpiapbpmaa
open Go.Ev
namespace Ev
section
variable (P : Program)
/-- Of vex.Read: is the length told, or no less; the length; the first bytes; what it tells. -/
abbrev RE := Bool × Nat × List SE × AV
noncomputable def rdE (x : RE) : PC → List AV → H → Res (AV × H) := fun _ args h =>
  match args with
  | [.slc id off m _ _ es] => bif Nat.beq es 1 && (bif x.1 then Nat.beq m x.2.1 else Nat.ble x.2.1 m) then
      (rd h id off x.2.2.1.length).bind fun l => bif avsBeq l (x.2.2.1.map (AV.int .u8)) then .ok (x.2.2.2, h) else .fail "other bytes"
      else .fail "another length"
  | _ => .fail "no such slice"
noncomputable def rdTab : List RE → PC → List AV → H → Res (AV × H)
  | [] => runH P X0 4000 8
  | x :: r => sumOr (rdE x) (rdTab r)
noncomputable def chkH (a0 : AV) (good : Bool) : PC → List AV → H → Res (AV × H) := fun _ args h =>
  match args with
  | [a] => bif a.beq a0 then .ok (.int .i64 (.lit (bif good then 0 else 2)), h) else .fail "other fields"
  | _ => .fail "vex.Check"
noncomputable def ppH : PC → List AV → H → Res (AV × H) := fun _ args h =>
  match args with
  | [.int .i64 e] => .ok (.int .i64 (ppE e), h)
  | _ => .fail "vex.pp"
noncomputable def XV (a0 : AV) (good : Bool) (l : List RE) : Hooks := (((X0.with 4 (sumTab [] tKn)).with 16 (chkH a0 good)).with 23 ppH).with 8 (rdTab P l)

def tup (fs : List SE) (n e : SE) : AV := .tup [.agg (fs.map i6), i6 n, i6 e]
def inB (e : SE) : PC := [(.le (li 0) e, true), (.le e (li 255), true)]
def fvW (b : Nat) (w : SE) : List SE := [vr b, vr (b + 1), vr (b + 2), vr (b + 3), w, vr (b + 5), vr (b + 6), vr (b + 7)]
def orW (b : Nat) (w : SE) : SE := .bits .or .i64 (.bits .or .i64 (vr (b + 1)) (vr (b + 2))) w

/-! ### The ways of v -/
/-- Case k: 0: it may not be; 1: two bytes will do; 2, 3: they will not. -/
def vPC (ei : Bool) (k : Nat) : PC :=
  let w : SE := bif ei then li 0 else vr 204
  (bif Nat.beq k 0 then [] else
   (bif Nat.beq k 1 then [(.eq (orW 200 w) (li 0), true), (.le (li 1) (vr 203), true), (.le (vr 203) (li 1), true)]
    else bif Nat.beq k 2 then [(.eq (orW 200 w) (li 0), true), (.eq (vr 203) (li 1), false)]
    else [(.eq (orW 200 w) (li 0), false)]) ++
   (bif ei then (.eq (e2 200 (li 0)) (e2 200 (li 16)), false) :: (inB (e2 200 (li 0)) ++ inB (e2 200 (li 16))) else []))
def vTwo (n : Nat) (w : SE) : List RE := bif Nat.beq n 0 then [(true, 2, [li 197, e0' 200], tup (fvW 200 w) (li 2) (li 0))] else [(false, 3, [li 197, e0' 200, vr 0], tup (fvW 200 w) (li 2) (li 0))]
def vThr (hd w : SE) : RE := (false, 3, [li 196, e1 200, e2 200 hd], tup (fvW 200 w) (li 3) (li 0))
def vCut : RE := (true, 2, [li 196, e1 200], noV 9)
def vRE (ei : Bool) (k n : Nat) : List RE :=
  bif Nat.beq k 0 then [] else
   (bif ei then (bif Nat.beq k 1 then vTwo n (li 0) else []) ++ [vThr (li 0) (li 0), vThr (li 16) (li 1), vCut]
    else (bif Nat.beq k 1 then vTwo n (vr 204) else []) ++ [vThr (hW (vr 204)) (vr 204), vCut])

/-! ### The ways of b -/
/-- Case k of what stands in b (n bytes of it): 0: nothing; 1: two bytes; 2, 3, 4: three (such as two might do; another map; no such), W told by t. -/
def bW (ei t : Bool) : SE := bif ei then (bif t then li 1 else li 0) else vr 214
def bPC (ei t : Bool) (k n : Nat) : PC :=
  bif Nat.beq k 0 then [(.eq (vr 209) (li 0), false)]
  else bif Nat.beq k 1 then e0 197 true :: (.eq (e0' 210) (vr 1), true) :: (rng 0 ++ (rng 1 ++ inB (e0' 210)))
  else
    let w : SE := bif ei then li 0 else vr 214
    (bif Nat.beq k 2 then [(.eq (orW 210 w) (li 0), true), (.le (li 1) (vr 213), true), (.le (vr 213) (li 1), true)]
     else bif Nat.beq k 3 then [(.eq (orW 210 w) (li 0), true), (.eq (vr 213) (li 1), false)]
     else [(.eq (orW 210 w) (li 0), false)]) ++
    (e0 196 true :: (.eq (e1 210) (vr 1), true) :: (rng 0 ++ (rng 1 ++ (rng 2 ++ (inB (e1 210) ++
      (bif ei then (inB (e2 210 (li 0)) ++ (inB (e2 210 (li 16)) ++ (bif t then [(.eq (e2 210 (li 0)) (vr 2), false), (.eq (e2 210 (li 16)) (vr 2), true)] else [(.eq (e2 210 (li 0)) (vr 2), true)])))
       else (inB (e2 210 (hW (vr 214))) ++ [(.eq (e2 210 (hW (vr 214))) (vr 2), true)])))))))
def bF (ei t : Bool) (k : Nat) : List SE :=
  bif Nat.beq k 0 then [li 0, li 0, li 0, li 0, li 0, li 0, li 0, li 0]
  else bif Nat.beq k 1 then [vr 210, li 0, li 0, li 1, li 0, vr 215, vr 216, vr 217]
  else fvW 210 (bW ei t)
def bRes (ei t : Bool) (k : Nat) : AV :=
  bif Nat.beq k 0 then tup (bF ei t k) (li 0) (vr 209) else bif Nat.beq k 1 then tup (bF ei t k) (li 2) (li 0) else tup (bF ei t k) (li 3) (li 0)
def bRE (ei t : Bool) (k n : Nat) : List RE :=
  bif Nat.beq n 0 then [] else bif Nat.ble 3 n then [(false, 3, [vr 0, vr 1, vr 2], bRes ei t k)] else bif Nat.beq n 2 then [(true, 2, [vr 0, vr 1], bRes ei t k)] else [(true, 1, [vr 0], bRes ei t k)]

/-! ### The pieces -/
noncomputable def fnB (P : Program) : Func := (P.funcs[5]?).getD default
noncomputable def partsB (P : Program) : List Code := match (fnB P).body with
  | some c => flat c
  | none => []
/-- The argument b: nil, empty, of n bytes. -/
def bArg (nl : Bool) (n : Nat) : AV := bif Nat.beq n 0 then (bif nl then .nils else .emp) else argB n
noncomputable def HBn (n : Nat) : H := bif Nat.beq n 0 then H0 else HB n
noncomputable def stA (ei nl : Bool) (n : Nat) : St := st0 (fnB P) [vF 200, bv ei, bArg nl n] (HBn n)
noncomputable def stB (ei nl : Bool) (n : Nat) : St := ⟨((T.nil.put 1 (bv ei)).put 2 (bArg nl n)).put 7 (bv true), ⟨4000000, (HBn n).tr⟩, []⟩
noncomputable def XVk (ei : Bool) (k n : Nat) : Hooks := XV P (vF 200) (!(Nat.beq k 0)) (vRE ei k n)
noncomputable def XBk (ei t : Bool) (k n : Nat) : Hooks := XV P (.agg ((bF ei t k).map i6)) (!(Nat.beq k 0)) (bRE ei t k n)
noncomputable def seg1 (ei nl : Bool) (k n : Nat) : Bool := segOK P (fun _ => XVk P ei k n) 4000 (fr0 5 (fnB P)) ((partsB P).take 9) (stA P ei nl n) (stB ei nl n) (vPC ei k)
noncomputable def seg2 (ei nl t : Bool) (k n : Nat) : Bool := lastOK P (fun _ => XBk P ei t k n) 4000 (fr0 5 (fnB P)) (fnB P) ((partsB P).drop 9) (stB ei nl n) (bPC ei t k n)
end
noncomputable def all1 (nl : Bool) (n : Nat) : Bool := [false, true].all fun ei => [0, 1, 2, 3].all fun k => seg1 Try.prog ei nl k n
noncomputable def all2 (nl : Bool) (n : Nat) : Bool := [false, true].all fun ei => [false, true].all fun t => (bif Nat.ble 3 n then [0, 1, 2, 3, 4] else bif Nat.beq n 2 then [0, 1] else [0]).all fun k => seg2 Try.prog ei nl t k n
end Ev
end Go.Proofs.Ytlngklpiapbpmaa
