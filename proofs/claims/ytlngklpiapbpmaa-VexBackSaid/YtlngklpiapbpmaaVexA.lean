/- Cases of three bytes, and what vex.Read tells in each; no theorem of the program yet; no conditions. -/
import Derived.Test.YtlngklpiapbpmaaEvZb
import Derived.KernelRfl
import Derived.Test.YtlngklpiapbpmaaProg
set_option linter.unusedSimpArgs false
set_option linter.unusedVariables false
namespace Go.Proofs.Ytlngklpiapbpmaa
open Go.Ev
namespace Ev
abbrev iv (n : Nat) : AV := .int .i64 (.lit (.ofNat n))
abbrev bv (b : Bool) : AV := .bool (.lit b)
abbrev li (n : Nat) : SE := .lit (.ofNat n)
def rng (i : Nat) : PC := [(.le (li 0) (.var i), true), (.le (.var i) (li 255), true)]
abbrev b1 : SE := .var 1
abbrev b2 : SE := .var 2
def e0 (n : Nat) (t : Bool) : SB × Bool := (.eq (.var 0) (li n), t)
def prs : List (Nat × Nat) := [(0, 0), (1, 1), (2, 4), (3, 2)]
def noV (e : Nat) : AV := .tup [.agg [iv 0, iv 0, iv 0, iv 0, iv 0, iv 0, iv 0, iv 0], iv 0, iv e]
abbrev i6 (e : SE) : AV := .int .i64 e
abbrev mlo : SB × Bool := (.lt (.rem b1 (li 32)) (li 1), true)
abbrev mhi : SB × Bool := (.lt (li 3) (.rem b1 (li 32)), true)
abbrev mlo' : SB × Bool := (.lt (.rem b1 (li 32)) (li 1), false)
abbrev mhi' : SB × Bool := (.lt (li 3) (.rem b1 (li 32)), false)
def three (p : Nat) : AV := .tup [.agg [i6 (.sub (li 1) (.quo b1 (li 128))), i6 (.sub (li 1) (.rem (.quo b1 (li 64)) (li 2))), i6 (.sub (li 1) (.rem (.quo b1 (li 32)) (li 2))), i6 (.rem b1 (li 32)), i6 (.quo b2 (li 128)), i6 (.sub (li 15) (.rem (.quo b2 (li 8)) (li 16))), i6 (.rem (.quo b2 (li 4)) (li 2)), iv p], iv 3, iv 0]
def two (p : Nat) : AV := .tup [.agg [i6 (.sub (li 1) (.quo b1 (li 128))), iv 0, iv 0, iv 1, iv 0, i6 (.sub (li 15) (.rem (.quo b1 (li 8)) (li 16))), i6 (.rem (.quo b1 (li 4)) (li 2)), iv p], iv 2, iv 0]
def com3 : PC := (.le (li 3) (.var 3), true) :: (rng 0 ++ (rng 1 ++ rng 2))
def cs3 : List (PC × AV) :=
  ([e0 196 false, e0 197 false] ++ com3, noV 4) :: ([e0 196 true, mlo] ++ com3, noV 4) :: ([e0 196 true, mhi] ++ com3, noV 4) ::
  (prs.map (fun x => ([e0 197 true, (.eq (.rem b1 (li 4)) (li x.1), true)] ++ com3, two x.2)) ++
   prs.map (fun x => ([e0 196 true, mlo', mhi', (.eq (.rem b2 (li 4)) (li x.1), true)] ++ com3, three x.2)))
def pcs3 : List PC := cs3.map (·.1)
def com2 : PC := rng 0 ++ rng 1
def pcs2 : List PC := ([e0 196 false, e0 197 false] ++ com2) :: ([e0 196 true, mlo] ++ com2) :: ([e0 196 true, mhi] ++ com2) :: ([e0 196 true, mlo', mhi'] ++ com2) ::
  prs.map (fun x => [e0 197 true, (.eq (.rem b1 (li 4)) (li x.1), true)] ++ com2)
def pcs1 : List PC := [[e0 196 false, e0 197 false] ++ rng 0, [e0 196 true] ++ rng 0, [e0 197 true] ++ rng 0]
/-- The variable of byte j. -/
def vb (j : Nat) : Nat := bif Nat.blt j 3 then j else Nat.succ j
def cellsB (n : Nat) : List AV := (List.range n).map fun j => .int .u8 (.var (vb j))
noncomputable def HB (n : Nat) : H := ⟨65, T.put .nil 64 (.cells false true 5 n (T.puts .nil 0 (cellsB n)))⟩
abbrev argB (n : Nat) : AV := .slc 64 0 n false n 1
def tAw : List SEnt := [([], bv true, 1000, [])]
noncomputable def XA : Hooks := X0.with 6 (sumTab [] tAw)
noncomputable def XR (n : Nat) : Hooks := (XA.with 8 (readS n cs3)).with 9 (readS n cs3)
end Ev
end Go.Proofs.Ytlngklpiapbpmaa
