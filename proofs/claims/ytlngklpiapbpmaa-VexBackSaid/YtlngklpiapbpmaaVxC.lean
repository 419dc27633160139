/- The shapes of the proof of VexBack: what the two bytes behind 196 are, what the functions tell; no theorem of the program yet; no conditions. -/
import Derived.Test.YtlngklpiapbpmaaVexA
import Derived.Test.YtlngklpiapbpmaaEvZb
set_option linter.unusedSimpArgs false
set_option linter.unusedVariables false
namespace Go.Proofs.Ytlngklpiapbpmaa
open Go.Ev
namespace Ev
/-- The fields, from variable b on. -/
abbrev vr (i : Nat) : SE := .var i
def vF (b : Nat) : AV := .agg ((List.range 8).map fun i => i6 (.var (b + i)))
def ppI (x : Int) : Int := if x = 1 then 1 else if x = 4 then 2 else if x = 2 then 3 else 0
def preI (x : Int) : Int := if x = 1 then 1 else if x = 2 then 4 else if x = 3 then 2 else 0
abbrev ppE (e : SE) : SE := .app 5 (.cons e .nil)
def sh (hd : SE) (n : Nat) (e : SE) : SE := .bits .or .i64 (.wrap .i64 (.shl hd n)) e
def h0 (e : SE) : SE := .bits .or .i64 (li 0) e
def tl (hd v l p : SE) : SE := .wrap .u8 (sh (sh (.bits .or .i64 hd v) 1 l) 2 (ppE p))
/-- The first byte behind 196, the second one behind the head of W, the one behind 197. -/
def E1 (r x b m : SE) : SE := .bits .xor .u8 (.wrap .u8 (sh (sh (sh (h0 r) 1 x) 1 b) 5 m)) (li 224)
def E2 (hd v l p : SE) : SE := .bits .xor .u8 (tl hd v l p) (li 120)
def hW (w : SE) : SE := .wrap .i64 (.shl (h0 w) 4)
def E0 (r v l p : SE) : SE := .bits .xor .u8 (.bits .xor .u8 (tl (hW r) v l p) (li 128)) (li 120)
def e1 (b : Nat) : SE := E1 (vr b) (vr (b + 1)) (vr (b + 2)) (vr (b + 3))
def e2 (b : Nat) (hd : SE) : SE := E2 hd (vr (b + 5)) (vr (b + 6)) (vr (b + 7))
def e0' (b : Nat) : SE := E0 (vr b) (vr (b + 5)) (vr (b + 6)) (vr (b + 7))

/-- May it be? -/
def bitS (e : SE) : SB := .not (.and (.not (.eq e (li 0))) (.not (.eq e (li 1))))
def preS (e : SE) : SB := .not (.and (.not (.eq e (li 1))) (.and (.not (.eq e (li 4))) (.and (.not (.eq e (li 2))) (.not (.eq e (li 0))))))
def goodS (b : Nat) : SB :=
  .and (bitS (vr b)) (.and (bitS (vr (b + 1))) (.and (bitS (vr (b + 2))) (.and (bitS (vr (b + 4))) (.and (bitS (vr (b + 6)))
    (.and (.not (.lt (vr (b + 3)) (li 1))) (.and (.not (.lt (li 3) (vr (b + 3)))) (.and (.not (.lt (vr (b + 5)) (li 0))) (.and (.not (.lt (li 15) (vr (b + 5)))) (preS (vr (b + 7)))))))))))

noncomputable def chkC (pc : PC) (v : AV) (_ : H) : Bool :=
  match v with
  | .int .i64 (.lit (.ofNat 0)) => isSome true (dec pc (goodS 200))
  | .int .i64 (.lit (.ofNat 2)) => isSome false (dec pc (goodS 200))
  | _ => false
noncomputable def chkP (pc : PC) (v : AV) (_ : H) : Bool :=
  match v with
  | .int .i64 (.lit (.ofNat 0)) => isSome true (dec pc (.and (.not (.eq (.var 0) (li 1))) (.and (.not (.eq (.var 0) (li 4))) (.not (.eq (.var 0) (li 2))))))
  | .int .i64 (.lit (.ofNat 1)) => isSome true (dec pc (.eq (.var 0) (li 1)))
  | .int .i64 (.lit (.ofNat 2)) => isSome true (dec pc (.eq (.var 0) (li 4)))
  | .int .i64 (.lit (.ofNat 3)) => isSome true (dec pc (.eq (.var 0) (li 2)))
  | _ => false

/-! ### vex.Read, of slices of one byte, two, three at least -/
def ln (n : Nat) : SB × Bool := bif Nat.beq n 3 then (.le (li 3) (.var 3), true) else (.eq (.var 3) (li n), true)
def rngs : Nat → PC
  | 0 => []
  | n + 1 => rngs n ++ rng n
def com (n : Nat) : PC := ln n :: rngs n
def csR (n : Nat) : List (PC × AV) :=
  ([e0 196 false, e0 197 false] ++ com n, noV 4) ::
  (bif Nat.beq n 1 then [([e0 196 true] ++ com n, noV 9), ([e0 197 true] ++ com n, noV 9)]
  else ([e0 196 true, mlo] ++ com n, noV 4) :: ([e0 196 true, mhi] ++ com n, noV 4) ::
    (prs.map (fun x => ([e0 197 true, (.eq (.rem b1 (li 4)) (li x.1), true)] ++ com n, two x.2)) ++
    (bif Nat.beq n 2 then [([e0 196 true, mlo', mhi'] ++ com n, noV 9)]
     else prs.map (fun x => ([e0 196 true, mlo', mhi', (.eq (.rem b2 (li 4)) (li x.1), true)] ++ com n, three x.2)))))
noncomputable def Hn (n : Nat) : H := ⟨65, T.put .nil 64 (.cells false true 5 n (T.puts .nil 0 ((List.range n).map fun i => .int .u8 (.var i))))⟩
noncomputable def chkR3 (n : Nat) (x : PC × AV) : Bool :=
  match run Try.prog X0 x.1 4000 8 [.slv 64 0 n (.var 3) 1] (Hn n) with
  | .ok (v, _) => v.same x.1 x.2
  | _ => false

set_option maxRecDepth 100000 in
theorem cCheck : auto chkC (fun pc => run Try.prog X0 pc 4000 16 [vF 200] H0) 60 [] = true := by kernel_rfl
set_option maxRecDepth 100000 in
theorem cPP : auto chkP (fun pc => run Try.prog X0 pc 4000 23 [.int .i64 (.var 0)] H0) 10 [] = true := by kernel_rfl
set_option maxRecDepth 100000 in
theorem cR1 : (csR 1).all (chkR3 1) = true := by kernel_rfl
set_option maxRecDepth 100000 in
theorem cR2 : (csR 2).all (chkR3 2) = true := by kernel_rfl
set_option maxRecDepth 100000 in
theorem cR3 : (csR 3).all (chkR3 3) = true := by kernel_rfl
def tKn : List SEnt := [([], bv true, 100000, [])]
set_option maxRecDepth 100000 in
theorem chk4 : tKn.all (chkEnt [] X0 Try.prog 4000 4) = true := by kernel_rfl
end Ev
end Go.Proofs.Ytlngklpiapbpmaa
