/- Definitions of an evaluator for a part of the model's language, over an abstract heap with symbolic whole numbers: no theorem of the program yet; no conditions. -/
import Derived.CallsIn
import Derived.DefersIn
import Derived.LoopNIn
import Derived.RangeFuncIn
set_option linter.unusedSimpArgs false
set_option linter.unusedVariables false
namespace Go.Ev

/-! ### A tree keyed by numbers -/
inductive T (α : Type) where
  | nil
  | node (v : Option α) (l r : T α)

noncomputable def T.get {α : Type} (t : T α) : Nat → Option α :=
  T.rec (motive := fun _ => Nat → Option α) (fun _ => none)
    (fun v _ _ gl gr k => Bool.rec (Bool.rec (gr (Nat.shiftRight (Nat.sub k 1) 1)) (gl (Nat.shiftRight k 1)) (Nat.beq (Nat.land k 1) 1)) v (Nat.beq k 0)) t

noncomputable def T.mk1 {α : Type} (x : Option α) (f : Nat) : Nat → T α :=
  Nat.rec (motive := fun _ => Nat → T α) (fun _ => .nil)
    (fun _ ih k => Bool.rec (Bool.rec (.node none .nil (ih (Nat.shiftRight (Nat.sub k 1) 1))) (.node none (ih (Nat.shiftRight k 1)) .nil) (Nat.beq (Nat.land k 1) 1)) (.node x .nil .nil) (Nat.beq k 0)) f

noncomputable def T.set {α : Type} (x : Option α) (t : T α) : Nat → T α :=
  T.rec (motive := fun _ => Nat → T α) (fun k => T.mk1 x (Nat.succ k) k)
    (fun v l r sl sr k => Bool.rec (Bool.rec (.node v l (sr (Nat.shiftRight (Nat.sub k 1) 1))) (.node v (sl (Nat.shiftRight k 1)) r) (Nat.beq (Nat.land k 1) 1)) (.node x l r) (Nat.beq k 0)) t

noncomputable def T.put {α : Type} (t : T α) (k : Nat) (x : α) : T α := T.set (some x) t k
noncomputable def T.del {α : Type} (t : T α) (k : Nat) : T α := T.set none t k

/-- Values from place k on. -/
noncomputable def T.puts {α : Type} (t : T α) (k : Nat) (xs : List α) : T α :=
  List.rec (motive := fun _ => T α → Nat → T α) (fun t _ => t) (fun x _ ih t k => ih (t.put k x) (Nat.succ k)) xs t k

/-- n values from place k on. -/
noncomputable def T.gets {α : Type} (t : T α) (k n : Nat) : Option (List α) :=
  Nat.rec (motive := fun _ => Nat → Option (List α)) (fun _ => some [])
    (fun _ ih k => Option.rec none (fun x => Option.rec none (fun xs => some (x :: xs)) (ih (Nat.succ k))) (t.get k)) n k

/-! ### Symbolic numbers and tests -/
inductive BOp where
  | and | or | xor | andNot

inductive SE where
  | lit (n : Int)
  | var (i : Nat)
  | wrap (k : IntKind) (e : SE)
  | add (a b : SE)
  | sub (a b : SE)
  | mul (a b : SE)
  | quo (a b : SE)
  | rem (a b : SE)
  | shl (a : SE) (n : Nat)
  | shr (a : SE) (n : Nat)
  | bits (o : BOp) (k : IntKind) (a b : SE)
  | app (g : Nat) (a : SE)
  | nil
  | cons (a b : SE)

inductive SB where
  | lit (b : Bool)
  | lt (a b : SE)
  | le (a b : SE)
  | eq (a b : SE)
  | not (a : SB)
  | and (a b : SB)
  | app (g : Nat) (a : SE)

/-- What variables and functions stand for. -/
structure Env where
  v : Nat → Int
  fn : Nat → List Int → Int
  pr : Nat → List Int → Bool

def bitOp (o : BOp) (k : IntKind) (x y : Int) : Int :=
  let a := BitVec.ofInt k.bits x
  let b := BitVec.ofInt k.bits y
  match o with
  | .and => k.wrap (a &&& b).toNat
  | .or => k.wrap (a ||| b).toNat
  | .xor => k.wrap (a ^^^ b).toNat
  | .andNot => k.wrap (a &&& ~~~b).toNat

mutual
def SE.den (ρ : Env) : SE → Int
  | .lit n => n
  | .var i => ρ.v i
  | .wrap k e => k.wrap (e.den ρ)
  | .add a b => a.den ρ + b.den ρ
  | .sub a b => a.den ρ - b.den ρ
  | .mul a b => a.den ρ * b.den ρ
  | .quo a b => (a.den ρ).tdiv (b.den ρ)
  | .rem a b => (a.den ρ).tmod (b.den ρ)
  | .shl a n => a.den ρ * 2 ^ n
  | .shr a n => (a.den ρ).fdiv (2 ^ n)
  | .bits o k a b => bitOp o k (a.den ρ) (b.den ρ)
  | .app g a => ρ.fn g (a.dens ρ)
  | .nil => 0
  | .cons _ _ => 0
def SE.dens (ρ : Env) : SE → List Int
  | .cons a b => a.den ρ :: b.dens ρ
  | _ => []
end

def SB.den (ρ : Env) : SB → Bool
  | .lit b => b
  | .lt a b => decide (a.den ρ < b.den ρ)
  | .le a b => decide (a.den ρ ≤ b.den ρ)
  | .eq a b => a.den ρ == b.den ρ
  | .not a => !a.den ρ
  | .and a b => a.den ρ && b.den ρ
  | .app g a => ρ.pr g (a.dens ρ)

def BOp.beq : BOp → BOp → Bool
  | .and, .and | .or, .or | .xor, .xor | .andNot, .andNot => true
  | _, _ => false
def ikBeq : IntKind → IntKind → Bool
  | .i8, .i8 | .i16, .i16 | .i32, .i32 | .i64, .i64 | .u8, .u8 | .u16, .u16 | .u32, .u32 | .u64, .u64 => true
  | _, _ => false
def intBeq : Int → Int → Bool
  | .ofNat a, .ofNat b => Nat.beq a b
  | .negSucc a, .negSucc b => Nat.beq a b
  | _, _ => false

def SE.beq : SE → SE → Bool
  | .lit a, .lit b => intBeq a b
  | .var i, .var j => Nat.beq i j
  | .wrap k a, .wrap l b => ikBeq k l && a.beq b
  | .add a b, .add c d | .sub a b, .sub c d | .mul a b, .mul c d | .quo a b, .quo c d | .rem a b, .rem c d | .cons a b, .cons c d => a.beq c && b.beq d
  | .shl a n, .shl b m | .shr a n, .shr b m => Nat.beq n m && a.beq b
  | .bits o k a b, .bits p l c d => o.beq p && ikBeq k l && a.beq c && b.beq d
  | .app g a, .app h b => Nat.beq g h && a.beq b
  | .nil, .nil => true
  | _, _ => false

def SB.beq : SB → SB → Bool
  | .lit a, .lit b => a == b
  | .lt a b, .lt c d | .le a b, .le c d | .eq a b, .eq c d => a.beq c && b.beq d
  | .not a, .not b => a.beq b
  | .and a b, .and c d => a.beq c && b.beq d
  | .app g a, .app h b => Nat.beq g h && a.beq b
  | _, _ => false

/-! ### What is taken for decided -/
abbrev PC := List (SB × Bool)
def PC.holds (ρ : Env) (pc : PC) : Prop := ∀ x ∈ pc, x.1.den ρ = x.2

/-- A value that is told of e. -/
def PC.eqOf (e : SE) : PC → Option Int
  | [] => none
  | (.eq a (.lit n), true) :: r => bif a.beq e then some n else PC.eqOf e r
  | _ :: r => PC.eqOf e r

def maxO (a : Option Int) (b : Int) : Option Int :=
  match a with
  | none => some b
  | some a => some (if a ≤ b then b else a)
def minO (a : Option Int) (b : Int) : Option Int :=
  match a with
  | none => some b
  | some a => some (if a ≤ b then a else b)

/-- Between which numbers e lies. -/
def PC.lo (e : SE) : PC → Option Int
  | [] => none
  | (.lt a (.lit n), false) :: r => bif a.beq e then maxO (PC.lo e r) n else PC.lo e r
  | (.le a (.lit n), false) :: r => bif a.beq e then maxO (PC.lo e r) (n + 1) else PC.lo e r
  | (.lt (.lit n) a, true) :: r => bif a.beq e then maxO (PC.lo e r) (n + 1) else PC.lo e r
  | (.le (.lit n) a, true) :: r => bif a.beq e then maxO (PC.lo e r) n else PC.lo e r
  | _ :: r => PC.lo e r
def PC.hi (e : SE) : PC → Option Int
  | [] => none
  | (.lt a (.lit n), true) :: r => bif a.beq e then minO (PC.hi e r) (n - 1) else PC.hi e r
  | (.le a (.lit n), true) :: r => bif a.beq e then minO (PC.hi e r) n else PC.hi e r
  | (.lt (.lit n) a, false) :: r => bif a.beq e then minO (PC.hi e r) n else PC.hi e r
  | (.le (.lit n) a, false) :: r => bif a.beq e then minO (PC.hi e r) (n - 1) else PC.hi e r
  | _ :: r => PC.hi e r

def PC.known (b : SB) : PC → Option Bool
  | [] => none
  | (a, t) :: r => bif a.beq b then some t else PC.known b r

def ltLit (pc : PC) (a b : SE) : Option Bool :=
  match a, b with
  | .lit x, .lit y => some (decide (x < y))
  | .lit x, e =>
    match pc.lo e with
    | some l => if x < l then some true else match pc.hi e with
      | some h => if h ≤ x then some false else none
      | none => none
    | none => match pc.hi e with
      | some h => if h ≤ x then some false else none
      | none => none
  | e, .lit y =>
    match pc.hi e with
    | some h => if h < y then some true else match pc.lo e with
      | some l => if y ≤ l then some false else none
      | none => none
    | none => match pc.lo e with
      | some l => if y ≤ l then some false else none
      | none => none
  | _, _ => none

def leLit (pc : PC) (a b : SE) : Option Bool := (ltLit pc b a).map (!·)

def eqLit (pc : PC) (a b : SE) : Option Bool :=
  match ltLit pc a b with
  | some true => some false
  | l =>
    match ltLit pc b a with
    | some true => some false
    | some false => match l with
      | some false => some true
      | _ => none
    | none => none

/-! ### Tests that hang on one variable of few values -/
def SE.first : SE → Option Nat
  | .var i => some i
  | .wrap _ e | .shl e _ | .shr e _ => e.first
  | .add a b | .sub a b | .mul a b | .quo a b | .rem a b | .bits _ _ a b => match a.first with
    | some i => some i
    | none => b.first
  | _ => none
def SB.first : SB → Option Nat
  | .lt a b | .le a b | .eq a b => match a.first with
    | some i => some i
    | none => b.first
  | .not a => a.first
  | .and a b => match a.first with
    | some i => some i
    | none => b.first
  | _ => none

def op2 (f : Int → Int → Int) : Option Int → Option Int → Option Int
  | some a, some b => some (f a b)
  | _, _ => none
def op1 (f : Int → Int) : Option Int → Option Int
  | some a => some (f a)
  | none => none
def SE.ev (i : Nat) (v : Int) : SE → Option Int
  | .lit n => some n
  | .var j => bif Nat.beq j i then some v else none
  | .wrap k e => op1 k.wrap (e.ev i v)
  | .add a b => op2 (· + ·) (a.ev i v) (b.ev i v)
  | .sub a b => op2 (· - ·) (a.ev i v) (b.ev i v)
  | .mul a b => op2 (· * ·) (a.ev i v) (b.ev i v)
  | .quo a b => op2 Int.tdiv (a.ev i v) (b.ev i v)
  | .rem a b => op2 Int.tmod (a.ev i v) (b.ev i v)
  | .shl a n => op1 (fun x => x * 2 ^ n) (a.ev i v)
  | .shr a n => op1 (fun x => x.fdiv (2 ^ n)) (a.ev i v)
  | .bits o k a b => op2 (bitOp o k) (a.ev i v) (b.ev i v)
  | _ => none
def tst2 (f : Int → Int → Bool) : Option Int → Option Int → Option Bool
  | some a, some b => some (f a b)
  | _, _ => none
def and2 : Option Bool → Option Bool → Option Bool
  | some a, some b => some (a && b)
  | _, _ => none
def not1 : Option Bool → Option Bool
  | some a => some (!a)
  | none => none
def SB.ev (i : Nat) (v : Int) : SB → Option Bool
  | .lit b => some b
  | .lt a b => tst2 (fun x y => decide (x < y)) (a.ev i v) (b.ev i v)
  | .le a b => tst2 (fun x y => decide (x ≤ y)) (a.ev i v) (b.ev i v)
  | .eq a b => tst2 (fun x y => x == y) (a.ev i v) (b.ev i v)
  | .not a => not1 (a.ev i v)
  | .and a b => and2 (a.ev i v) (b.ev i v)
  | .app _ _ => none

/-- May the variable i be v? -/
def alive (i : Nat) (v : Int) (pc : PC) : Bool :=
  pc.all fun x => match x.1.ev i v with
    | some t => t == x.2
    | none => true

def isSome (b : Bool) : Option Bool → Bool
  | some t => t == b
  | none => false

/-- The numbers from l on, n of them, that i may be. -/
def lives (pc : PC) (i : Nat) (l : Int) : Nat → List Int
  | 0 => []
  | n + 1 => bif alive i (l + (Int.ofNat n)) pc then (l + (Int.ofNat n)) :: lives pc i l n else lives pc i l n

/-- A test, by all that its one variable may be (no more than 300 numbers). -/
def exh (pc : PC) (b : SB) : Option Bool :=
  match b.first with
  | none => none
  | some i =>
    match pc.lo (.var i), pc.hi (.var i) with
    | some l, some h =>
      bif decide (h < l + 300) then
        (let vs := lives pc i l (h + 1 - l).toNat
        bif vs.all (fun v => isSome true (b.ev i v)) then some true
        else bif vs.all (fun v => isSome false (b.ev i v)) then some false else none)
      else none
    | _, _ => none

def orExh (pc : PC) (b : SB) : Option Bool → Option Bool
  | some t => some t
  | none => exh pc b

/-- Is b decided? -/
def dec (pc : PC) : SB → Option Bool
  | .lit b => some b
  | .not a => (dec pc a).map (!·)
  | .and a b =>
    match dec pc a with
    | some false => some false
    | some true => dec pc b
    | none => pc.known (.and a b)
  | .lt a b => match ltLit pc a b with
    | some t => some t
    | none => orExh pc (.lt a b) (pc.known (.lt a b))
  | .le a b => match leLit pc a b with
    | some t => some t
    | none => orExh pc (.le a b) (pc.known (.le a b))
  | .eq a b => match eqLit pc a b with
    | some t => some t
    | none => bif a.beq b then some true else orExh pc (.eq a b) (pc.known (.eq a b))
  | .app g a => pc.known (.app g a)

/-- What is to be asked for next, of a test that is not decided. -/
def ask (pc : PC) : SB → SB
  | .not a => ask pc a
  | .and a b => match dec pc a with
    | some _ => ask pc b
    | none => ask pc a
  | b => b

/-- A number, as far as it is told. -/
def nrm (pc : PC) (e : SE) : SE :=
  match e with
  | .lit n => .lit n
  | e => match pc.eqOf e with
    | some n => .lit n
    | none => e

/-! ### Results -/
inductive Res (α : Type) where
  | ok (a : α)
  | need (b : SB)
  | fail (why : String)

noncomputable def Res.bind {α β : Type} (x : Res α) (f : α → Res β) : Res β := Res.rec (motive := fun _ => Res β) f .need .fail x

noncomputable def Res.ofO {α : Type} (why : String) (x : Option α) : Res α := Option.rec (motive := fun _ => Res α) (.fail why) .ok x

/-! ### Values -/
inductive AV where
  | int (k : IntKind) (e : SE)
  | bool (b : SB)
  | str (n : Nat) (bs : List SE)
  | nilp
  | ptr (id off : Nat)
  | nils
  | slc (id off len : Nat) (ex : Bool) (cap es : Nat)     -- ex: the capacity is cap; else it is no less; es: an element's cells
  | emp     -- a slice of no elements, not nil, wherever it lies
  | slv (id off n : Nat) (l : SE) (es : Nat)     -- a slice of l elements, which are n at least
  | ptrv (id off es n : Nat) (e : SE)     -- to the e-th of n elements of es cells each
  | pick (cs : List AV) (e : SE)     -- the e-th of these
  | nilm
  | map (id : Nat)
  | nilf
  | func (fn : Fn) (first captured : List AV)
  | nili
  | iface (t : Nat) (v : AV)
  | agg (cs : List AV)
  | tup (vs : List AV)

def AV.cells : AV → List AV
  | .agg cs => cs
  | v => [v]

/-- Is it the value of one cell? -/
def AV.one : AV → Bool
  | .agg _ | .tup _ => false
  | _ => true

mutual
def ofValue : Value → Option AV
  | .bool b => some (.bool (.lit b))
  | .int k n => some (.int k (.lit n))
  | .string s => some (.str s.data.toList.length (s.data.toList.map fun b => .lit (.ofNat b.toNat)))
  | .pointer none => some .nilp
  | .slice none 0 0 => some .nils
  | .map none => some .nilm
  | .func (.func f) ⟨a⟩ ⟨b⟩ => match ofValues a, ofValues b with
    | some a, some b => some (.func (.func f) a b)
    | _, _ => none
  | .nilFunc => some .nilf
  | .iface t v => match ofValue v with
    | some v => some (.iface t v)
    | none => none
  | .nilIface => some .nili
  | .agg ⟨cs⟩ => match ofValues cs with
    | some cs => some (.agg cs)
    | none => none
  | .tuple ⟨vs⟩ => match ofValues vs with
    | some vs => some (.tup vs)
    | none => none
  | _ => none
def ofValues : List Value → Option (List AV)
  | [] => some []
  | v :: vs => match ofValue v with
    | none => none
    | some a => match ofValues vs with
      | none => none
      | some as => some (a :: as)
end


/-! ### Types -/
inductive TD where
  | bool
  | int (k : IntKind)
  | str
  | ptr (e : Nat)
  | slc (e : Nat)
  | arr (n e : Nat)
  | struct (fs : List (Nat × Nat × Bool))     -- type, offset, whether the name is not '_'
  | map (k e : Nat)
  | iface
  | oth

def tdOf : TypeDesc → TD
  | .bool => .bool
  | .int k => .int k
  | .string => .str
  | .pointer e => .ptr e
  | .slice e => .slc e
  | .array n e => .arr n e
  | .struct fs => .struct (fs.toList.map fun f => (f.type, f.offset, f.name ≠ "_"))
  | .map k e => .map k e
  | .interface _ => .iface
  | _ => .oth

structure TI where
  d : TD
  size : Nat
  bytes : Nat
  zero : List AV

def tinfo (P : Program) (t : Nat) : Option TI :=
  match P.info? t with
  | none => none
  | some i =>
    match P.underlying t with
    | none => none
    | some d =>
      match i.zero with
      | none => none
      | some z =>
        match ofValue z with
        | none => none
        | some z => some { d := tdOf d, size := i.size, bytes := i.bytes, zero := z.cells }

def TD.agg : TD → Bool
  | .arr .. | .struct .. => true
  | _ => false

/-! ### The heap -/
inductive Blk where
  | cells (own opn : Bool) (ety n : Nat) (vals : T AV)
  | loop (fn nt mask : Nat) (tm : T AV) (ps : List Nat) (assign body : Code) (state : LoopState) (pend : Option Code) (dfr : Nat)
  | defs
  | map (es : List (AV × AV))
  | siter (n : Nat) (bs : List SE) (pos : Nat)
  | pickb (c : Nat) (e : SE)     -- whole numbers: list e of those that function c stands for: of e alone how many, of e and i the i-th

def Blk.own : Blk → Bool
  | .cells own .. => own
  | .pickb .. => false
  | _ => true

structure H where
  next : Nat
  tr : T Blk

noncomputable def H.get (h : H) (id : Nat) : Option Blk := h.tr.get id
noncomputable def H.set (h : H) (id : Nat) (b : Blk) : H := { h with tr := h.tr.put id b }
noncomputable def H.del (h : H) (id : Nat) : H := { h with tr := h.tr.del id }
noncomputable def H.new (h : H) (b : Blk) : H := { h with next := Nat.succ h.next, tr := h.tr.put h.next b }

/-- n cells from off on. -/
noncomputable def rd (h : H) (id off n : Nat) : Res (List AV) :=
  match h.get id with
  | some (.cells _ _ _ m vals) => bif Nat.ble (off + n) m then .ofO "rd: an unknown cell" (vals.gets off n) else .fail "rd: too far"
  | _ => .fail "rd: no block"

noncomputable def wr (h : H) (id off : Nat) (vs : List AV) : Res H :=
  match h.get id with
  | some (.cells true opn e m vals) =>
    bif Nat.ble (off + vs.length) m && vs.all AV.one then .ok (h.set id (.cells true opn e m (vals.puts off vs))) else .fail "wr: too far"
  | _ => .fail "wr: no block of one's own"

noncomputable def blkOf (opn : Bool) (e : Nat) (cs : List AV) : Blk := .cells true opn e cs.length (T.puts .nil 0 cs)

/-! ### Arithmetic -/
def lim : IntKind → Nat
  | .i8 => 127 | .u8 => 255 | .i16 => 32767 | .u16 => 65535 | .i32 => 2147483647 | .u32 => 4294967295
  | .i64 => 9223372036854775807 | .u64 => 18446744073709551615

def wrapL (k : IntKind) (n : Int) : Int :=
  match n with
  | .ofNat m => bif Nat.ble m (lim k) then .ofNat m else k.wrap (.ofNat m)
  | .negSucc m => k.wrap (.negSucc m)

def wrapE (k : IntKind) : SE → SE
  | .lit n => .lit (wrapL k n)
  | e => .wrap k e
def addE : SE → SE → SE
  | .lit a, .lit b => .lit (a + b)
  | a, b => .add a b
def subE : SE → SE → SE
  | .lit a, .lit b => .lit (a - b)
  | a, b => .sub a b
def mulE : SE → SE → SE
  | .lit a, .lit b => .lit (a * b)
  | a, b => .mul a b
def quoE : SE → SE → SE
  | .lit a, .lit b => .lit (a.tdiv b)
  | a, b => .quo a b
def remE : SE → SE → SE
  | .lit a, .lit b => .lit (a.tmod b)
  | a, b => .rem a b
def shlE : SE → Nat → SE
  | .lit a, n => .lit (a * 2 ^ n)
  | a, n => .shl a n
def shrE : SE → Nat → SE
  | .lit a, n => .lit (a.fdiv (2 ^ n))
  | a, n => .shr a n
def bitsE (o : BOp) (k : IntKind) : SE → SE → SE
  | .lit a, .lit b => .lit (bitOp o k a b)
  | a, b => .bits o k a b
def ltE : SE → SE → SB
  | .lit a, .lit b => .lit (decide (a < b))
  | a, b => .lt a b
def leE : SE → SE → SB
  | .lit a, .lit b => .lit (decide (a ≤ b))
  | a, b => .le a b
def eqE : SE → SE → SB
  | .lit a, .lit b => .lit (intBeq a b)
  | a, b => bif a.beq b then .lit true else .eq a b
def notB : SB → SB
  | .lit b => .lit (!b)
  | .not b => b
  | b => .not b
def andB : SB → SB → SB
  | .lit true, b => b
  | .lit false, _ => .lit false
  | a, .lit true => a
  | _, .lit false => .lit false
  | a, b => .and a b

/-- A test, decided, or asked for. -/
def decR (pc : PC) (b : SB) : Res Bool :=
  match dec pc b with
  | some t => .ok t
  | none => .need (ask pc b)

/-- Which of the numbers from j on, n of them, is e? -/
def which (pc : PC) (e : SE) : Nat → Nat → Res Nat
  | _, 0 => .fail "which: none of them"
  | j, n + 1 =>
    match dec pc (.eq e (.lit (.ofNat j))) with
    | some true => .ok j
    | some false => which pc e (Nat.succ j) n
    | none => .need (.eq e (.lit (.ofNat j)))

/-- A number below n, written out. -/
def below (pc : PC) (e : SE) (n : Nat) : Res Nat :=
  match e with
  | .lit (.ofNat m) => bif Nat.blt m n then .ok m else .fail "below: out of range"
  | .lit (.negSucc _) => .fail "below: out of range"
  | e =>
    match dec pc (.le (.lit 0) e) with
    | none => .need (.le (.lit 0) e)
    | some false => .fail "below: out of range"
    | some true =>
      match dec pc (.lt e (.lit (.ofNat n))) with
      | none => .need (.lt e (.lit (.ofNat n)))
      | some false => .fail "below: out of range"
      | some true => which pc e 0 n

def asI (pc : PC) : AV → Res (IntKind × SE)
  | .int k e => .ok (k, nrm pc e)
  | _ => .fail "a number expected"

def inByte (pc : PC) (e : SE) : Bool :=
  match e with
  | .lit (.ofNat n) => Nat.ble n 255
  | .lit (.negSucc _) => false
  | e => match pc.lo e, pc.hi e with
    | some l, some h => decide (0 ≤ l) && decide (h ≤ 255)
    | _, _ => false

def strEq (pc : PC) : List SE → List SE → Res SB
  | [], [] => .ok (.lit true)
  | a :: as, b :: bs =>
    bif a.beq b then strEq pc as bs
    else bif inByte pc a && inByte pc b then
      match eqE (nrm pc a) (nrm pc b) with
      | .lit false => .ok (.lit false)
      | e => match strEq pc as bs with
        | .ok r => .ok (andB e r)
        | r => r
    else .fail "strEq: a byte out of range"
  | _, _ => .ok (.lit false)

section
variable (P : Program)

def partA (ti : TI) (off : Nat) (cs : List AV) : Option AV :=
  bif ti.d.agg then (bif Nat.ble (off + ti.size) cs.length then some (.agg ((cs.drop off).take ti.size)) else none) else (cs.drop off).head?

def eqfs (ev : Nat → AV → AV → Res SB) : List (Nat × Nat × Bool) → List AV → List AV → Res SB
  | [], _, _ => .ok (.lit true)
  | (t, off, named) :: fs, xs, ys =>
    bif named then
      match tinfo P t with
      | none => .fail "eqv: no type"
      | some ti =>
        match partA ti off xs, partA ti off ys with
        | some x, some y =>
          match ev t x y with
          | .ok a => match eqfs ev fs xs ys with
            | .ok b => .ok (andB a b)
            | r => r
          | r => r
        | _, _ => .fail "eqv: no part"
    else eqfs ev fs xs ys

/-- Are two values of a type the same? -/
def eqv (pc : PC) : Nat → Nat → AV → AV → Res SB
  | 0, _, _, _ => .fail "eqv: fuel"
  | f + 1, t, x, y =>
    match tinfo P t with
    | none => .fail "eqv: no type"
    | some ti =>
      match ti.d, x, y with
      | .bool, .bool a, .bool b =>
        (match a, b with
        | .lit true, b => .ok b
        | .lit false, b => .ok (notB b)
        | a, .lit true => .ok a
        | a, .lit false => .ok (notB a)
        | a, b => match dec pc a with
          | some true => .ok b
          | some false => .ok (notB b)
          | none => .need (ask pc a))
      | .int _, .int k a, .int l b => bif ikBeq k l then .ok (eqE (nrm pc a) (nrm pc b)) else .fail "eqv: kinds"
      | .str, .str n a, .str m b => bif Nat.beq n m then strEq pc a b else .ok (.lit false)
      | .ptr _, .nilp, .nilp => .ok (.lit true)
      | .ptr _, .nilp, .ptr _ _ => .ok (.lit false)
      | .ptr _, .ptr _ _, .nilp => .ok (.lit false)
      | .slc _, .nils, .nils => .ok (.lit true)
      | .slc _, .nils, .slc .. => .ok (.lit false)
      | .slc _, .slc .., .nils => .ok (.lit false)
      | .slc _, .nils, .emp => .ok (.lit false)
      | .slc _, .emp, .nils => .ok (.lit false)
      | .map _ _, .nilm, .nilm => .ok (.lit true)
      | .map _ _, .nilm, .map _ => .ok (.lit false)
      | .map _ _, .map _, .nilm => .ok (.lit false)
      | .iface, .nili, .nili => .ok (.lit true)
      | .iface, .nili, .iface _ _ => .ok (.lit false)
      | .iface, .iface _ _, .nili => .ok (.lit false)
      | .struct fs, .agg xs, .agg ys => bif P.stoodInHeld t then .fail "eqv: stood in" else eqfs P (eqv pc f) fs xs ys
      | _, _, _ => .fail "eqv: no such values"
end

end Go.Ev

/- The evaluator itself: operations, regions, statements, calls; no theorem of the program yet; no conditions. -/
namespace Go.Ev
section
variable (P : Program)

/-- What temporaries are known: those of the mask in a tree, for as long as the frame lives; the others in a list, newest first, for as long as the region lasts. -/
structure Tm where
  mask : Nat
  tree : T AV
  loc : List (Nat × Option AV)

def bit (m i : Nat) : Bool := Nat.beq (Nat.land (Nat.shiftRight m i) 1) 1

noncomputable def assoc (l : List (Nat × Option AV)) (t : Nat) : Option AV :=
  List.rec (motive := fun _ => Option AV) none (fun x _ ih => Bool.rec ih x.2 (Nat.beq x.1 t)) l

noncomputable def Tm.get (m : Tm) (t : Nat) : Option AV := Bool.rec (assoc m.loc t) (m.tree.get t) (bit m.mask t)

noncomputable def eTmp (t : Nat) (tm : Tm) : Res AV := .ofO "a temporary that is not known" (tm.get t)
noncomputable def eConst (v : Value) (_ : Tm) : Res AV := .ofO "a constant" (ofValue v)
noncomputable def eGlobal (g : Nat) (_ : Tm) : Res AV := Bool.rec (.fail "a global") (.ok (.ptr g 0)) (Nat.blt g 64)
noncomputable def eFunc (f : Nat) (_ : Tm) : Res AV := .ok (.func (.func f) [] [])
noncomputable def evalA (tm : Tm) (x : Operand) : Res AV := Operand.rec (motive := fun _ => Tm → Res AV) eTmp eConst eGlobal eFunc x tm

noncomputable def tdR (t : Nat) : Res TI := .ofO "a type" (tinfo P t)

noncomputable def bopOf : BinOp → Option BOp
  | .and => some .and
  | .or => some .or
  | .xor => some .xor
  | .andNot => some .andNot
  | _ => none

noncomputable def isConstA : Operand → Bool
  | .const _ => true
  | _ => false

noncomputable def shA (l : Bool) (k : IntKind) (a : SE) : SE → Res AV
  | .lit (.ofNat n) =>
    let n := bif Nat.ble n k.bits then n else k.bits
    bif l then .ok (.int k (wrapE k (shlE a n))) else .ok (.int k (shrE a n))
  | _ => .fail "a shift's count"

noncomputable def divA (pc : PC) (q : Bool) (k : IntKind) (a b : SE) : Res AV :=
  match dec pc (eqE b (.lit 0)) with
  | some false => bif q then .ok (.int k (wrapE k (quoE a b))) else .ok (.int k (remE a b))
  | some true => .fail "a division by 0"
  | none => .need (eqE b (.lit 0))

abbrev BinI : Type := PC → IntKind → Bool → SE → SE → Res AV
noncomputable def same? (x : Bool) (v : Res AV) : Res AV := Bool.rec (.fail "binary: kinds") v x
noncomputable def bAdd : BinI := fun _ k s a b => same? s (.ok (.int k (wrapE k (addE a b))))
noncomputable def bSub : BinI := fun _ k s a b => same? s (.ok (.int k (wrapE k (subE a b))))
noncomputable def bMul : BinI := fun _ k s a b => same? s (.ok (.int k (wrapE k (mulE a b))))
noncomputable def bQuo : BinI := fun pc k s a b => same? s (divA pc true k a b)
noncomputable def bRem : BinI := fun pc k s a b => same? s (divA pc false k a b)
noncomputable def bBit (o : BOp) : BinI := fun _ k s a b => same? s (.ok (.int k (bitsE o k a b)))
noncomputable def bShl : BinI := fun _ k _ a b => shA true k a b
noncomputable def bShr : BinI := fun _ k _ a b => shA false k a b
noncomputable def bEql : BinI := fun _ _ s a b => same? s (.ok (.bool (eqE a b)))
noncomputable def bNeq : BinI := fun _ _ s a b => same? s (.ok (.bool (notB (eqE a b))))
noncomputable def bLss : BinI := fun _ _ s a b => same? s (.ok (.bool (ltE a b)))
noncomputable def bLeq : BinI := fun _ _ s a b => same? s (.ok (.bool (leE a b)))
noncomputable def bGtr : BinI := fun _ _ s a b => same? s (.ok (.bool (ltE b a)))
noncomputable def bGeq : BinI := fun _ _ s a b => same? s (.ok (.bool (leE b a)))
noncomputable def binInt (pc : PC) (op : BinOp) (k : IntKind) (same : Bool) (a b : SE) : Res AV :=
  BinOp.rec (motive := fun _ => BinI) bAdd bSub bMul bQuo bRem (bBit .and) (bBit .or) (bBit .xor) bShl bShr (bBit .andNot) bEql bNeq bLss bLeq bGtr bGeq op pc k same a b

noncomputable def binStr (pc : PC) (op : BinOp) (n m : Nat) (a b : List SE) : Res AV :=
  match op with
  | .add => bif Nat.ble (n + m) 4611686018427387904 then .ok (.str (n + m) (a ++ b)) else .fail "a long text"
  | .eql => bif Nat.beq n m then (strEq pc a b).bind fun r => .ok (.bool r) else .ok (.bool (.lit false))
  | .neq => bif Nat.beq n m then (strEq pc a b).bind fun r => .ok (.bool (notB r)) else .ok (.bool (.lit true))
  | _ => .fail "binary: an operator on texts"

noncomputable def binEq (pc : PC) (op : BinOp) (t : Nat) (x y : AV) : Res AV :=
  match op with
  | .eql => (eqv P pc 20 t x y).bind fun r => .ok (.bool r)
  | .neq => (eqv P pc 20 t x y).bind fun r => .ok (.bool (notB r))
  | _ => .fail "binary: an operator"

/-- Neither numbers nor texts. -/
noncomputable def AV.noNum : AV → Bool
  | .int .. | .str .. | .pick .. => false
  | _ => true

noncomputable def AV.isAgg : AV → Bool
  | .agg _ => true
  | _ => false

noncomputable def AV.isNili : AV → Bool
  | .nili => true
  | _ => false

noncomputable def binOther (pc : PC) (op : BinOp) (t : Nat) (cst : Bool) (x y : AV) : Res AV :=
  bif x.noNum && y.noNum then
    bif x.isAgg && y.isAgg && P.eqGuardType P.depth t then .fail "binary: interfaces inside"
    else bif x.isNili && y.isNili && !cst then .fail "binary: two nil values of an interface"
    else binEq P pc op t x y
  else .fail "binary: numbers, texts"

noncomputable def binA (pc : PC) (op : BinOp) (t : Nat) (cst : Bool) (x y : AV) : Res AV :=
  match x with
  | .int k a => (match y with
    | .int l b => binInt pc op k (ikBeq k l) (nrm pc a) (nrm pc b)
    | _ => .fail "binary: a number")
  | .str n a => (match y with
    | .str m b => binStr pc op n m a b
    | _ => .fail "binary: a text")
  | x => binOther P pc op t cst x y

noncomputable def unA (pc : PC) (op : UnOp) (x : AV) : Res AV :=
  match op, x with
  | .not, .bool b => .ok (.bool (notB b))
  | .neg, .int k e => .ok (.int k (wrapE k (subE (.lit 0) (nrm pc e))))
  | .xor, .int k e => .ok (.int k (bitsE .xor k (.lit (if k.signed then -1 else k.max)) (nrm pc e)))
  | _, _ => .fail "unary"

/-- Cells with parts laid over them. -/
noncomputable def layA : List AV → Nat → List AV → List AV
  | [], _, _ => []
  | c :: cs, 0, [] => c :: cs
  | _ :: cs, 0, v :: vs => v :: layA cs 0 vs
  | c :: cs, o + 1, vs => c :: layA cs o vs

noncomputable def fillA (place : Nat → Option (Nat × Nat)) (cells : List AV) : List (Nat × AV) → Option (List AV)
  | [] => some cells
  | (i, v) :: rest =>
    match place i with
    | none => none
    | some (off, size) =>
      bif Nat.beq v.cells.length size && Nat.ble (off + v.cells.length) cells.length then fillA place (layA cells off v.cells) rest else none

noncomputable def partsA (ea : Operand → Res AV) : List (Nat × Operand) → Res (List (Nat × AV))
  | [] => .ok []
  | (i, x) :: r => (ea x).bind fun v => (partsA ea r).bind fun vs => .ok ((i, v) :: vs)

noncomputable def argsA (ea : Operand → Res AV) : List Operand → Res (List AV)
  | [] => .ok []
  | x :: r => (ea x).bind fun v => (argsA ea r).bind fun vs => .ok (v :: vs)

/-- Where a struct's fields lie, and of what size they are. -/
noncomputable def placesA : List (Nat × Nat × Bool) → Option (List (Nat × Nat))
  | [] => some []
  | (t, off, _) :: r =>
    match tinfo P t, placesA r with
    | some ti, some l => some ((off, ti.size) :: l)
    | _, _ => none

noncomputable def nth {α : Type} : List α → Nat → Option α
  | [], _ => none
  | x :: _, 0 => some x
  | _ :: r, n + 1 => nth r n

noncomputable def buildA (t : Nat) (parts : List (Nat × AV)) : Res AV :=
  (tdR P t).bind fun ti =>
    match ti.d with
    | .struct fs =>
      match placesA P fs with
      | none => .fail "build: a field's type"
      | some l => match fillA (nth l) ti.zero parts with
        | some cs => .ok (.agg cs)
        | none => .fail "build: a part"
    | .arr _ e => (tdR P e).bind fun te => match fillA (fun i => some (i * te.size, te.size)) ti.zero parts with
      | some cs => .ok (.agg cs)
      | none => .fail "build: a part"
    | _ => .fail "build: what type"

/-- n times these cells. -/
noncomputable def repA (z : List AV) : Nat → List AV
  | 0 => []
  | n + 1 => z ++ repA z n

noncomputable def convA (pc : PC) (s d : Nat) (x : AV) : Res AV :=
  (tdR P s).bind fun _ => (tdR P d).bind fun td =>
    match td.d, x with
    | .int k, .int _ e => .ok (.int k (wrapE k (nrm pc e)))
    | .str, .str n b => .ok (.str n b)
    | _, _ => .fail "convert"

/-- A bound of a slice expression. -/
noncomputable def bndA (pc : PC) (v : AV) (y : Nat) : Res Nat := (asI pc v).bind fun (_, e) => below pc e (y + 1)

noncomputable def optA (ea : Operand → Res AV) : Option Operand → Res (Option AV)
  | none => .ok none
  | some x => (ea x).bind fun v => .ok (some v)

/-- low, high, max of a slice expression over len and a capacity that is cap (ex), or no less. -/
noncomputable def boundsA (pc : PC) (len : Nat) (ex : Bool) (cap : Nat) (lo hi mx : Option AV) : Res (Nat × Nat × Bool × Nat) :=
  match mx with
  | some m => (bndA pc m cap).bind fun m =>
    match hi with
    | none => .fail "slice: max without high"
    | some h => (bndA pc h m).bind fun h =>
      match lo with
      | none => .ok (0, h, true, m)
      | some l => (bndA pc l h).bind fun l => .ok (l, h, true, m)
  | none =>
    match hi with
    | some h => (bndA pc h cap).bind fun h =>
      (match lo with
      | none => .ok (0, h, ex, cap)
      | some l => (bndA pc l h).bind fun l => .ok (l, h, ex, cap))
    | none =>
      match lo with
      | none => .ok (0, len, ex, cap)
      | some l => (bndA pc l len).bind fun l => .ok (l, len, ex, cap)

noncomputable def cutA (id off es : Nat) : Nat × Nat × Bool × Nat → AV
  | (l, h, ex, m) =>
    bif Nat.beq l 0 then .slc id off h ex m es
    else bif Nat.blt l m then .slc id (off + l * es) (h - l) ex (m - l) es
    else bif ex then .slc id off (h - l) true 0 es else .emp

noncomputable def sliceA (pc : PC) (t : Nat) (x : AV) (lo hi mx : Option AV) : Res AV :=
  (tdR P t).bind fun ti =>
    match ti.d, x with
    | .str, .str n bs =>
      (match mx with
      | some _ => .fail "slice: max of a text"
      | none => (boundsA pc n true n lo hi none).bind fun (l, h, _, _) => .ok (.str (h - l) ((bs.drop l).take (h - l))))
    | .slc e, .slc id off len ex cap es => (tdR P e).bind fun te =>
      bif Nat.beq te.size es then (boundsA pc len ex cap lo hi mx).bind fun b => .ok (cutA id off es b) else .fail "slice: an element's size"
    | .slc e, .nils => (tdR P e).bind fun _ => (boundsA pc 0 true 0 lo hi mx).bind fun _ => .ok .nils
    | .slc e, .emp => (tdR P e).bind fun _ => (boundsA pc 0 false 0 lo hi mx).bind fun _ => .ok .emp
    | .slc e, .slv id off n _ es => (tdR P e).bind fun te =>
      bif Nat.beq te.size es then (match hi with
        | some h => (boundsA pc n false n lo (some h) mx).bind fun b => .ok (cutA id off es b)
        | none => .fail "slice: a length that is not told") else .fail "slice: an element's size"
    | _, _ => .fail "slice: of what"

noncomputable def lenA (t : Nat) (x : AV) : Res AV :=
  (tdR P t).bind fun ti =>
    match ti.d, x with
    | .str, .str n _ => .ok (.int .i64 (.lit (.ofNat n)))
    | .arr n _, _ => .ok (.int .i64 (.lit (.ofNat n)))
    | .ptr a, _ => (tdR P a).bind fun ta => match ta.d with
      | .arr n _ => .ok (.int .i64 (.lit (.ofNat n)))
      | _ => .fail "len: of what"
    | .slc _, .slc _ _ n _ _ _ => .ok (.int .i64 (.lit (.ofNat n)))
    | .slc _, .nils => .ok (.int .i64 (.lit 0))
    | .slc _, .emp => .ok (.int .i64 (.lit 0))
    | .slc _, .slv _ _ _ l _ => .ok (.int .i64 l)
    | .map _ _, .nilm => .ok (.int .i64 (.lit 0))
    | _, _ => .fail "len: of what"

noncomputable def capA (t : Nat) (x : AV) : Res AV :=
  (tdR P t).bind fun ti =>
    match ti.d, x with
    | .slc _, .slc _ _ _ true c _ => .ok (.int .i64 (.lit (.ofNat c)))
    | .slc _, .nils => .ok (.int .i64 (.lit 0))
    | _, _ => .fail "cap: of what"

noncomputable def maxA (mx : Bool) (pc : PC) : AV → List AV → Res AV
  | x, [] => .ok x
  | .int k a, .int l b :: r =>
    bif ikBeq k l then
      let a := nrm pc a
      let b := nrm pc b
      (decR pc (bif mx then ltE a b else ltE b a)).bind fun t => maxA mx pc (.int k (bif t then b else a)) r
    else .fail "max: kinds"
  | _, _ => .fail "max: of what"

/-- Neither of a slice nor to one. -/
noncomputable def plainConv (s d : Nat) : Bool :=
  match tinfo P s, tinfo P d with
  | some a, some b => (match a.d, b.d with
    | .slc _, _ => false
    | _, .slc _ => false
    | _, _ => true)
  | _, _ => true

noncomputable def aPick (pc : PC) (ea : Operand → Res AV) (c a b : Operand) : Res AV :=
  (ea c).bind fun c => match c with
    | .bool s => (decR pc s).bind fun t => bif t then ea a else ea b
    | _ => .fail "pick"

noncomputable def aNilCheck : AV → Res AV
  | .ptr id off => .ok (.ptr id off)
  | .func (.func f) a b => .ok (.func (.func f) a b)
  | .func (.yield l) a b => .ok (.func (.yield l) a b)
  | .iface t v => .ok (.iface t v)
  | _ => .fail "nilCheck"

noncomputable def aIface (t : Nat) (v : AV) : Res AV :=
  (tdR P t).bind fun ti => match ti.d with
    | .iface => .fail "makeInterface"
    | _ => .ok (.iface t v)

noncomputable def aFunc (ea : Operand → Res AV) (fn : Fn) (first captured : Array Operand) : Res AV :=
  match fn with
  | .func f => (argsA ea first.toList).bind fun a => (argsA ea captured.toList).bind fun b => .ok (.func (.func f) a b)
  | _ => .fail "makeFunc"

/-- A field's type and place. -/
noncomputable def fieldR (s f : Nat) : Res (TI × Nat) :=
  (tdR P s).bind fun ti => match ti.d with
    | .struct fs => (match nth fs f with
      | some (t, o, _) => (tdR P t).bind fun tf => .ok (tf, o)
      | none => .fail "no such field")
    | _ => .fail "a field of what"

noncomputable def aFieldAddr (s f : Nat) : AV → Res AV
  | .ptr id off => (fieldR P s f).bind fun (tf, o) => bif Nat.ble 1 tf.size then .ok (.ptr id (off + o)) else .fail "a field of no cells"
  | .ptrv id off es n e => (fieldR P s f).bind fun (tf, o) => bif Nat.ble 1 tf.size then .ok (.ptrv id (off + o) es n e) else .fail "a field of no cells"
  | _ => .fail "fieldAddr"

noncomputable def aField (s f : Nat) : AV → Res AV
  | .agg cs => (fieldR P s f).bind fun (tf, o) => .ofO "field: a part" (partA tf o cs)
  | _ => .fail "field"

/-- The place of element e of n, of es cells each: told if there are few. -/
noncomputable def ixA (pc : PC) (e : SE) (id off n es : Nat) : Res AV :=
  bif Nat.ble n 64 then (below pc e n).bind fun j => .ok (.ptr id (off + j * es))
  else match e with
    | .lit _ => (below pc e n).bind fun j => .ok (.ptr id (off + j * es))
    | e => (decR pc (.le (.lit 0) e)).bind fun a => (decR pc (.lt e (.lit (.ofNat n)))).bind fun b => bif a && b then .ok (.ptrv id off es n e) else .fail "indexAddr: out of range"

noncomputable def aIndexAddr (pc : PC) (t : Nat) (e : SE) (v : AV) : Res AV :=
  (tdR P t).bind fun ti => match ti.d, v with
    | .arr n el, .ptr id off => (tdR P el).bind fun te => (below pc e n).bind fun j => .ok (.ptr id (off + j * te.size))
    | .slc el, .slc id off len _ _ es => (tdR P el).bind fun te => bif Nat.beq te.size es then ixA pc e id off len es else .fail "indexAddr: size"
    | .slc el, .slv id off n _ es => (tdR P el).bind fun te => bif Nat.beq te.size es then (below pc e n).bind fun j => .ok (.ptr id (off + j * es)) else .fail "indexAddr: size"
    | _, _ => .fail "indexAddr"

noncomputable def aIndex (pc : PC) (t : Nat) (e : SE) (v : AV) : Res AV :=
  (tdR P t).bind fun ti => match ti.d, v with
    | .arr n el, .agg cs => (tdR P el).bind fun te => (below pc e n).bind fun j => .ofO "index: a part" (partA te (j * te.size) cs)
    | .str, .str n bs => (below pc e n).bind fun j => (match nth bs j with
      | some b => bif inByte pc b then .ok (.int .u8 b) else .fail "index: a byte"
      | none => .fail "index: no byte")
    | _, _ => .fail "index"

noncomputable def aExtract (i : Nat) : AV → Res AV
  | .tup vs => .ofO "extract" (nth vs i)
  | _ => .fail "extract"

noncomputable def aLen (pc : PC) (b : Builtin) (ts : List Nat) (vs : List AV) : Res AV :=
  match b, vs, ts with
  | .len, v :: _, t :: _ => lenA P t v
  | .cap, v :: _, t :: _ => capA P t v
  | .max, v :: r, _ => maxA true pc v r
  | .min, v :: r, _ => maxA false pc v r
  | _, _, _ => .fail "len, cap, max, min"

noncomputable def aBuildSlice (t n : Nat) (ps : List (Nat × AV)) : Res (Blk × (Nat → AV)) :=
  (tdR P t).bind fun ti => match ti.d with
    | .slc e => (tdR P e).bind fun te =>
      bif Nat.ble (n * te.size) 16777216 && (Nat.ble 1 te.size && Nat.beq te.zero.length te.size) then
        match fillA (fun i => some (i * te.size, te.size)) (repA te.zero n) ps with
        | some cs => .ok (blkOf false e cs, fun id => .slc id 0 n true n te.size)
        | none => .fail "buildSlice: a part"
      else .fail "buildSlice: size"
    | _ => .fail "buildSlice"

noncomputable def aMakeSlice (t : Nat) (l c : IntKind × SE) : Res (Blk × (Nat → AV)) :=
  (tdR P t).bind fun ti => match ti.d, l, c with
    | .slc e, (.i64, .lit (.ofNat l)), (.i64, .lit (.ofNat c)) => (tdR P e).bind fun te =>
      bif Nat.ble l c && (Nat.ble (c * te.bytes) 140737488355328 && (Nat.ble c 140737488355328 && (Nat.ble 1 te.size && Nat.beq te.zero.length te.size))) then .ok (blkOf false e (repA te.zero c), fun id => .slc id 0 l true c te.size) else .fail "makeSlice: size"
    | _, _, _ => .fail "makeSlice"

/-- n cells from k on, es apart. -/
noncomputable def T.strides {α : Type} (t : T α) (es k n : Nat) : Option (List α) :=
  Nat.rec (motive := fun _ => Nat → Option (List α)) (fun _ => some [])
    (fun _ ih k => Option.rec none (fun x => Option.rec none (fun xs => some (x :: xs)) (ih (k + es))) (t.get k)) n k

noncomputable def colA (h : H) (id off es n : Nat) : Res (List AV) :=
  match h.get id with
  | some (.cells _ _ _ m vals) => bif Nat.blt (off + (n - 1) * es) m then (Res.ofO "colA: an unknown cell" (vals.strides es off n)).bind fun l => bif l.all AV.one then .ok l else .fail "colA: cells" else .fail "colA: too far"
  | _ => .fail "colA: no block"

noncomputable def colsA (h : H) (id off es n : Nat) (e : SE) : Nat → Res (List AV)
  | 0 => .ok []
  | k + 1 => (colA h id off es n).bind fun c => (colsA h id (off + 1) es n e k).bind fun cs => .ok (.pick c e :: cs)

noncomputable def aLoad (h : H) (t : Nat) : AV → Res AV
  | .ptr id off => (tdR P t).bind fun ti => bif ti.d.agg then (rd h id off ti.size).bind fun cs => .ok (.agg cs)
      else (rd h id off 1).bind fun cs => (match cs with
        | [v] => .ok v
        | _ => .fail "load")
  | .ptrv id off es n e => (tdR P t).bind fun ti => bif ti.d.agg then (colsA h id off es n e ti.size).bind fun cs => .ok (.agg cs)
      else (colA h id off es n).bind fun c => .ok (.pick c e)
  | _ => .fail "load"

noncomputable def bytesOfCells : List AV → Option (List SE)
  | [] => some []
  | .int .u8 e :: r => match bytesOfCells r with
    | some l => some (e :: l)
    | none => none
  | _ :: _ => none

/-- The cells of the first n elements. -/
noncomputable def firstA (pc : PC) (h : H) (size n : Nat) : AV → Res (List AV)
  | .slc id off _ _ _ _ => rd h id off (n * size)
  | .nils => .ok []
  | .emp => .ok []
  | .str _ bs => bif (bs.take n).all (inByte pc) && Nat.beq size 1 then .ok ((bs.take n).map fun e => .int .u8 e) else .fail "firstA: a byte"
  | _ => .fail "firstA"

noncomputable def lenOfA : AV → Res Nat
  | .slc _ _ n _ _ _ => .ok n
  | .nils => .ok 0
  | .emp => .ok 0
  | .str n _ => .ok n
  | _ => .fail "lenOfA"

noncomputable def appendA (pc : PC) (h : H) (e : Nat) (te : TI) (s x : AV) : Res (AV × H) :=
  (lenOfA x).bind fun n => (firstA pc h te.size n x).bind fun new =>
    match s with
    | .nils =>
      bif Nat.beq n 0 then .ok (.nils, h)
      else bif Nat.ble (n * te.bytes) 140737488355328 && Nat.ble n 140737488355328 then .ok (.slc h.next 0 n false n te.size, h.new (blkOf true e new)) else .fail "append: size"
    | .slc id off len ex cap es =>
      bif Nat.beq es te.size then
        bif Nat.ble (len + n) cap then
          (bif Nat.beq n 0 then .ok (.slc id off len ex cap es, h)
          else (wr h id (off + len * es) new).bind fun h' => .ok (.slc id off (len + n) ex cap es, h'))
        else bif Nat.ble ((len + n) * te.bytes) 140737488355328 && Nat.ble (len + n) 140737488355328 then
          (bif ex then
            (rd h id off (len * es)).bind fun old => .ok (.slc h.next 0 (len + n) false (len + n) es, h.new (blkOf true e (old ++ new)))
          else bif Nat.beq n 0 then .ok (.slc id off len ex cap es, h)
          else
            match h.get id with
            | some (.cells true true ety m vals) =>
              bif Nat.beq off 0 && Nat.ble (len * es) m && Nat.beq ety e && new.all AV.one then
                .ok (.slc h.next 0 (len + n) false (len + n) es, (h.del id).new (.cells true true e (len * es + new.length) (vals.puts (len * es) new)))
              else .fail "append: where it lies"
            | _ => .fail "append: no block of one's own")
        else .fail "append: size"
      else .fail "append: an element's size"
    | _ => .fail "append: to what"

noncomputable def isIntD : TD → Bool
  | .int _ => true
  | _ => false

/-- A whole number that is told, as a map's key. -/
noncomputable def keyA (pc : PC) : AV → Res (IntKind × Int)
  | .int k e => (match nrm pc e with
    | .lit n => .ok (k, n)
    | _ => .fail "map: a key that is not told")
  | _ => .fail "map: a key"

noncomputable def mFind (kd : IntKind) (n : Int) : List (AV × AV) → Nat → Res (Option (Nat × AV))
  | [], _ => .ok none
  | (.int k (.lit m), v) :: r, i => bif ikBeq kd k then (bif intBeq n m then .ok (some (i, v)) else mFind kd n r (i + 1)) else .fail "map: kinds"
  | _ :: _, _ => .fail "map: a key"

noncomputable def mapEs (h : H) : AV → Res (List (AV × AV))
  | .nilm => .ok []
  | .map id => (match h.get id with
    | some (.map es) => .ok es
    | _ => .fail "lookup: no map")
  | _ => .fail "lookup"

noncomputable def zeroA (P : Program) (t : Nat) : Res AV :=
  match P.info? t with
  | some i => (match i.zero with
    | some z => .ofO "a type's zero" (ofValue z)
    | none => .fail "a type's zero")
  | none => .fail "a type"

noncomputable def pairA (ok : Bool) (z : AV) : Option (Nat × AV) → AV
  | some (_, v) => bif ok then .tup [v, .bool (.lit true)] else v
  | none => bif ok then .tup [z, .bool (.lit false)] else z

noncomputable def aStore (h : H) (t : Nat) (v : AV) : AV → Res (Option AV × H)
  | .ptr id off => (tdR P t).bind fun ti => bif Nat.beq v.cells.length ti.size then (wr h id off v.cells).bind fun h' => .ok (none, h') else .fail "store: size"
  | _ => .fail "store"

noncomputable def aToStr (h : H) : AV → Res (Option AV × H)
  | .nils => .ok (some (.str 0 []), h)
  | .emp => .ok (some (.str 0 []), h)
  | .slc id off len _ _ _ => (rd h id off len).bind fun cs => (match bytesOfCells cs with
    | some l => .ok (some (.str len l), h)
    | none => .fail "convert: bytes")
  | _ => .fail "convert: a slice"

/-- A text's bytes: a row that is not to be written. -/
noncomputable def aToBytes (pc : PC) (h : H) (e : Nat) : AV → Res (Option AV × H)
  | .str n bs => bif bs.all (inByte pc) then .ok (some (.slc h.next 0 n false n 1), h.new (.cells false true e n (T.puts .nil 0 (bs.map fun b => .int .u8 b)))) else .fail "convert: a byte"
  | _ => .fail "convert: a text"

noncomputable def isU8 : TD → Bool
  | .int .u8 => true
  | _ => false

noncomputable def aConv (pc : PC) (h : H) (s d : Nat) (v : AV) : Res (Option AV × H) :=
  (tdR P s).bind fun ts => (tdR P d).bind fun td => match ts.d, td.d with
    | .slc e, .str => (tdR P e).bind fun te => bif isU8 te.d then aToStr h v else .fail "convert: a slice"
    | .str, .slc e => (tdR P e).bind fun te => bif isU8 te.d then aToBytes pc h e v else .fail "convert: to a slice"
    | _, _ => .fail "convert"

noncomputable def aLookup (pc : PC) (h : H) (t : Nat) (ok : Bool) (m k : AV) : Res (Option AV × H) :=
  (tdR P t).bind fun ti => match ti.d with
    | .map kt e => (tdR P kt).bind fun tk => bif isIntD tk.d then
        ((keyA pc k).bind fun kn => (mapEs h m).bind fun es => (zeroA P e).bind fun z => (mFind kn.1 kn.2 es 0).bind fun r => .ok (some (pairA ok z r), h))
      else .fail "lookup: a key"
    | _ => .fail "lookup: a type"

noncomputable def aMapUpdate (pc : PC) (h : H) (t : Nat) (m k v : AV) : Res (Option AV × H) :=
  (tdR P t).bind fun ti => match ti.d with
    | .map kt _ => (tdR P kt).bind fun tk => bif isIntD tk.d then
        ((keyA pc k).bind fun kn => match m with
        | .map id => (match h.get id with
          | some (.map es) => (mFind kn.1 kn.2 es 0).bind fun r => (match r with
            | none => .ok (none, h.set id (.map (es ++ [(.int kn.1 (.lit kn.2), v)])))
            | some _ => .fail "mapUpdate: a key that is there")
          | _ => .fail "mapUpdate: no map")
        | _ => .fail "mapUpdate: no map")
      else .fail "mapUpdate: a key"
    | _ => .fail "mapUpdate: a type"

noncomputable def aMakeMap (h : H) : Option Operand → Res (Option AV × H)
  | none => .ok (some (.map h.next), h.new (.map []))
  | some _ => .fail "makeMap: a size"

noncomputable def aRange (h : H) (t : Nat) (v : AV) : Res (Option AV × H) :=
  (tdR P t).bind fun ti => match ti.d, v with
    | .str, .str n bs => .ok (some (.ptr h.next 0), h.new (.siter n bs 0))
    | _, _ => .fail "range"

noncomputable def aNext (h : H) : AV → Res (Option AV × H)
  | .ptr id 0 => (match h.get id with
      | some (.siter n bs pos) =>
        bif Nat.blt pos n then
          (match nth bs pos with
          | some (.lit (.ofNat b)) => bif Nat.blt b 128 then .ok (some (.tup [.bool (.lit true), .int .i64 (.lit (.ofNat pos)), .int .i32 (.lit (.ofNat b))]), h.set id (.siter n bs (pos + 1))) else .fail "next: beyond ASCII"
          | _ => .fail "next: a byte that is not told")
        else .ok (some (.tup [.bool (.lit false)]), h)
      | _ => .fail "next: no iterator")
  | _ => .fail "next"

/-- Of slices and texts. -/
noncomputable def TD.seq : TD → Bool
  | .slc _ | .str => true
  | _ => false

/-- So many zeros behind a slice that is nil. -/
noncomputable def zerosA (pc : PC) (h : H) (e : Nat) (te : TI) (s x : AV) : Res (Option AV × H) :=
  match s with
  | .nils => (keyA pc x).bind fun kn => (match kn.2 with
    | .ofNat n => bif Nat.ble 1 n && (Nat.ble (n * te.bytes) 140737488355328 && (Nat.ble n 140737488355328 && (Nat.ble 1 te.size && Nat.beq te.zero.length te.size)))
        then .ok (some (.slc h.next 0 n false n te.size), h.new (blkOf true e (repA te.zero n))) else .fail "append: zeros, size"
    | _ => .fail "append: zeros, how many")
  | _ => .fail "append: zeros to what"

noncomputable def aAppend (pc : PC) (h : H) (ts : List Nat) (vs : List AV) : Res (Option AV × H) :=
  match vs, ts with
  | [s, x], t :: tx :: _ => (tdR P t).bind fun ti => (tdR P tx).bind fun tix => (match ti.d with
    | .slc e => (tdR P e).bind fun te => bif isIntD tix.d then zerosA pc h e te s x
      else bif Nat.ble 1 te.size && (Nat.beq te.zero.length te.size && tix.d.seq) then (appendA pc h e te s x).bind fun (v, h') => .ok (some v, h') else .fail "append: an element of no cells"
    | _ => .fail "append: a type")
  | _, _ => .fail "append"

noncomputable def copyA (pc : PC) (h : H) (size n : Nat) (x : AV) : AV → Res (Option AV × H)
  | .nils => .ok (some (.int .i64 (.lit 0)), h)
  | .emp => .ok (some (.int .i64 (.lit 0)), h)
  | .slc id off len _ _ es => bif Nat.beq es size then
      (let m := bif Nat.ble n len then n else len
      (firstA pc h size m x).bind fun new => bif Nat.beq m 0 then .ok (some (.int .i64 (.lit 0)), h) else (wr h id off new).bind fun h' => .ok (some (.int .i64 (.lit (.ofNat m))), h'))
      else .fail "copy: size"
  | _ => .fail "copy: to what"

noncomputable def aCopy (pc : PC) (h : H) (ts : List Nat) (vs : List AV) : Res (Option AV × H) :=
  match vs, ts with
  | [d, x], t :: _ => (tdR P t).bind fun ti => (match ti.d with
    | .slc e => (tdR P e).bind fun te => (lenOfA x).bind fun n => copyA pc h te.size n x d
    | _ => .fail "copy: a type")
  | _, _ => .fail "copy"

/-- What an operation is: it leaves the heap alone; it looks at it; it makes one block (and looks at nothing); any other; a call. -/
inductive Cls where
  | pure (v : Res AV)
  | load (f : H → Res AV)
  | alloc (x : Res (Blk × (Nat → AV)))
  | heap (f : H → Res (Option AV × H))
  | call (c : Call)
  | no

noncomputable def clsB (pc : PC) (ea : Operand → Res AV) (c : Call) (b : Builtin) : Cls :=
  match b with
  | .len | .cap | .max | .min => .pure ((argsA ea c.args.toList).bind fun vs => aLen P pc b c.argTypes.toList vs)
  | .append => .heap fun h => (argsA ea c.args.toList).bind fun vs => aAppend P pc h c.argTypes.toList vs
  | .copy => .heap fun h => (argsA ea c.args.toList).bind fun vs => aCopy P pc h c.argTypes.toList vs
  | _ => .no

noncomputable def clsCall (pc : PC) (ea : Operand → Res AV) (c : Call) : Cls :=
  match c.callee with
  | .builtin b => clsB P pc ea c b
  | _ => .call c

noncomputable def clsConv (pc : PC) (ea : Operand → Res AV) (s d : Nat) (x : Operand) : Cls :=
  bif plainConv P s d then .pure ((ea x).bind fun v => convA P pc s d v) else .heap fun h => (ea x).bind fun v => aConv P pc h s d v

end
section
abbrev ClsF : Type := Program → PC → (Operand → Res AV) → Cls
noncomputable def kMove (x : Operand) : ClsF := fun _ _ ea => .pure (ea x)
noncomputable def kAssign (x : Operand) : ClsF := fun _ _ ea => .pure (ea x)
noncomputable def kPick (c : Operand) (a : Operand) (b : Operand) : ClsF := fun _ pc ea => .pure (aPick pc ea c a b)
noncomputable def kAlloc (e : TypeId) : ClsF := fun P _ _ => .alloc ((tdR P e).bind fun ti => .ok (blkOf false e ti.zero, fun id => .ptr id 0))
noncomputable def kBox (e : TypeId) (x : Operand) : ClsF := fun _ _ ea => .alloc ((ea x).bind fun v => .ok (blkOf false e v.cells, fun id => .ptr id 0))
noncomputable def kBuild (t : TypeId) (parts : Array (Nat × Operand)) : ClsF := fun P _ ea => .pure ((partsA ea parts.toList).bind (buildA P t))
noncomputable def kBuildSlice (t : TypeId) (n : Nat) (parts : Array (Nat × Operand)) : ClsF := fun P _ ea => .alloc ((partsA ea parts.toList).bind (aBuildSlice P t n))
noncomputable def kInsert (t : TypeId) (m : Operand) (k : Operand) (v : Operand) : ClsF := fun P pc ea => .heap fun h => (ea m).bind fun m => (ea k).bind fun k => (ea v).bind fun v => aMapUpdate P pc h t m k v
noncomputable def kLoad (t : TypeId) (a : Operand) : ClsF := fun P _ ea => .load fun h => (ea a).bind (aLoad P h t)
noncomputable def kStore (t : TypeId) (a : Operand) (x : Operand) : ClsF := fun P _ ea => .heap fun h => (ea a).bind fun p => (ea x).bind fun v => aStore P h t v p
noncomputable def kNilCheck (x : Operand) : ClsF := fun _ _ ea => .pure ((ea x).bind aNilCheck)
noncomputable def kBinOp (o : BinOp) (t : TypeId) (x : Operand) (y : Operand) (_ : TypeId) : ClsF := fun P pc ea => .pure ((ea x).bind fun a => (ea y).bind fun b => binA P pc o t (isConstA x || isConstA y) a b)
noncomputable def kUnOp (o : UnOp) (_ : TypeId) (x : Operand) : ClsF := fun _ pc ea => .pure ((ea x).bind (unA pc o))
noncomputable def kConvert (s : TypeId) (d : TypeId) (x : Operand) : ClsF := fun P pc ea => clsConv P pc ea s d x
noncomputable def kMakeInterface (t : TypeId) (x : Operand) : ClsF := fun P _ ea => .pure ((ea x).bind (aIface P t))
noncomputable def kMakeFunc (fn : Fn) (first : Array Operand) (captured : Array Operand) : ClsF := fun _ _ ea => .pure (aFunc ea fn first captured)
noncomputable def kMakeMap (_ : TypeId) (r : Option Operand) : ClsF := fun _ _ _ => .heap fun h => aMakeMap h r
noncomputable def kMakeSlice (t : TypeId) (l : Operand) (c : Operand) : ClsF := fun P pc ea => .alloc ((ea l).bind fun l => (ea c).bind fun c => (asI pc l).bind fun l => (asI pc c).bind fun c => aMakeSlice P t l c)
noncomputable def kSlice (t : TypeId) (x : Operand) (lo : Option Operand) (hi : Option Operand) (mx : Option Operand) : ClsF := fun P pc ea => .pure ((ea x).bind fun v => (optA ea lo).bind fun lo => (optA ea hi).bind fun hi => (optA ea mx).bind fun mx => sliceA P pc t v lo hi mx)
noncomputable def kFieldAddr (s : TypeId) (x : Operand) (f : Nat) : ClsF := fun P _ ea => .pure ((ea x).bind (aFieldAddr P s f))
noncomputable def kField (s : TypeId) (x : Operand) (f : Nat) : ClsF := fun P _ ea => .pure ((ea x).bind (aField P s f))
noncomputable def kIndexAddr (t : TypeId) (x : Operand) (i : Operand) : ClsF := fun P pc ea => .pure ((ea x).bind fun v => (ea i).bind fun iv => (asI pc iv).bind fun e => aIndexAddr P pc t e.2 v)
noncomputable def kIndex (t : TypeId) (x : Operand) (i : Operand) : ClsF := fun P pc ea => .pure ((ea x).bind fun v => (ea i).bind fun iv => (asI pc iv).bind fun e => aIndex P pc t e.2 v)
noncomputable def kLookup (t : TypeId) (m : Operand) (k : Operand) (ok : Bool) : ClsF := fun P pc ea => .heap fun h => (ea m).bind fun m => (ea k).bind fun k => aLookup P pc h t ok m k
noncomputable def kMapUpdate (t : TypeId) (m : Operand) (k : Operand) (v : Operand) : ClsF := fun P pc ea => .heap fun h => (ea m).bind fun m => (ea k).bind fun k => (ea v).bind fun v => aMapUpdate P pc h t m k v
noncomputable def kRange (t : TypeId) (x : Operand) : ClsF := fun P _ ea => .heap fun h => (ea x).bind (aRange P h t)
noncomputable def kNext (it : Operand) (str : Bool) : ClsF := fun _ _ ea => Bool.rec (motive := fun _ => Cls) .no (.heap fun h => (ea it).bind (aNext h)) str
noncomputable def kExtract (x : Operand) (i : Nat) : ClsF := fun _ _ ea => .pure ((ea x).bind (aExtract i))
noncomputable def kCall (c : Call) : ClsF := fun P pc ea => clsCall P pc ea c

end
section
variable (P : Program)
noncomputable def cls (pc : PC) (ea : Operand → Res AV) (op : Op) : Cls :=
  Op.rec (motive := fun _ => ClsF) kMove kAssign kPick kAlloc kBox kBuild kBuildSlice kInsert kLoad kStore (fun _ _ _ _ => .no) (fun _ _ _ _ => .no) kNilCheck kBinOp kUnOp kConvert (fun _ _ _ _ _ => .no) kMakeInterface kMakeFunc kMakeMap (fun _ _ _ _ _ => .no) kMakeSlice kSlice kFieldAddr kField kIndexAddr kIndex kLookup kMapUpdate (fun _ _ _ _ _ _ => .no) (fun _ _ _ _ _ _ _ => .no) kRange kNext (fun _ _ _ _ => .no) (fun _ _ _ _ _ _ _ => .no) kExtract kCall (fun _ _ _ _ => .no) (fun _ _ _ _ => .no) (fun _ _ _ _ => .no) (fun _ _ _ _ _ => .no) (fun _ _ _ _ _ _ => .no) (fun _ _ _ _ _ => .no) op P pc ea

/-! ### Frames, statements, calls -/
structure Fr where
  fn : Nat
  nt : Nat
  mask : Nat
  round : Option Nat

structure St where
  tm : T AV
  h : H
  marks : List Nat

inductive Ex where
  | normal
  | exit (id : Nat)
  | goto (l : Nat)
  | ret

structure Rec where
  code : Fr → Code → St → Res (Ex × St)
  loop : Fr → Code → St → Res (Ex × St)
  fn : Nat → List AV → H → Res (AV × H)

/-- What functions are taken by a summary, and what functions have no body. -/
structure Hooks where
  sum : Nat → Option (PC → List AV → H → Res (AV × H))
  ext : Nat → Option (PC → List AV → Res AV)
  mth : Nat → String → Option Nat

variable (X : Hooks) (pc : PC)

noncomputable def callF (r : Rec) (f : Nat) (args : List AV) (h : H) : Res (AV × H) :=
  match X.sum f with
  | some g => g pc args h
  | none =>
    match X.ext f with
    | some g => (g pc args).bind fun v => .ok (v, h)
    | none => r.fn f args h

noncomputable def setsA (tm : T AV) (nt mask : Nat) : List Nat → List AV → Res (T AV)
  | [], [] => .ok tm
  | t :: ts, v :: vs => bif Nat.blt t nt then setsA (bif bit mask t then tm.put t v else tm) nt mask ts vs else .fail "yield: a temporary"
  | _, _ => .fail "yield: arguments"

noncomputable def Ex.code? : Ex → Option Code
  | .normal => none
  | .exit id => some (.exit id)
  | .goto l => some (.goto l)
  | .ret => some .ret

/-- One round of a range over a function. -/
noncomputable def yieldA (r : Rec) (l : Nat) (args : List AV) (h : H) : Res (AV × H) :=
  match h.get l with
  | some (.loop fn nt mask tm ps assign body .ready _ _) =>
    (setsA tm nt mask ps args).bind fun tm =>
      let fr : Fr := { fn, nt, mask, round := some l }
      (r.code fr assign { tm, h, marks := [] }).bind fun (e, st) =>
        match e with
        | .normal =>
          (match st.h.get l with
          | some (.loop fn nt mask tm0 ps assign body0 .ready pend dfr) =>
            (r.code fr body { st with h := st.h.set l (.loop fn nt mask tm0 ps assign body0 .busy pend dfr) }).bind fun (e, st) =>
              (match st.h.get l with
              | some (.loop fn nt mask tm0 ps assign body _ _ dfr) =>
                let (s, b) := match e with
                  | .normal => (LoopState.ready, true)
                  | _ => (LoopState.done, false)
                .ok (.bool (.lit b), st.h.set l (.loop fn nt mask tm0 ps assign body s e.code? dfr))
              | _ => .fail "yield: no such loop")
          | _ => .fail "yield: the loop is not ready")
        | _ => .fail "yield: an assignment"
  | _ => .fail "yield: the loop is not ready"

noncomputable def callV (r : Rec) (fv : AV) (args : List AV) (h : H) : Res (AV × H) :=
  match fv with
  | .func (.func f) a b => callF X pc r f (a ++ args ++ b) h
  | .func (.yield l) a _ => yieldA r l (a ++ args) h
  | _ => .fail "a call of what"

noncomputable def invokeA (r : Rec) (recv : AV) (name : String) (args : List AV) (h : H) : Res (AV × H) :=
  match recv with
  | .iface t v => match X.mth t name with
    | some f => callF X pc r f (v :: args) h
    | none => .fail "a method"
  | _ => .fail "a method of what"

noncomputable def callO (r : Rec) (ea : Operand → Res AV) (c : Call) (h : H) : Res (AV × H) :=
  (argsA ea c.args.toList).bind fun vs =>
    match c.callee with
    | .value f => (ea f).bind fun fv => callV X pc r fv vs h
    | .invoke x name => (ea x).bind fun recv => invokeA X pc r recv name vs h
    | .builtin _ => .fail "a builtin"

noncomputable def oPure (v : Res AV) (_ : Hooks) (_ : PC) (_ : Rec) (_ : Operand → Res AV) (h : H) : Res (Option AV × H) := v.bind fun v => .ok (some v, h)
noncomputable def oLoad (f : H → Res AV) (_ : Hooks) (_ : PC) (_ : Rec) (_ : Operand → Res AV) (h : H) : Res (Option AV × H) := (f h).bind fun v => .ok (some v, h)
noncomputable def oAlloc (x : Res (Blk × (Nat → AV))) (_ : Hooks) (_ : PC) (_ : Rec) (_ : Operand → Res AV) (h : H) : Res (Option AV × H) := x.bind fun x => .ok (some (x.2 h.next), h.new x.1)
noncomputable def oHeap (f : H → Res (Option AV × H)) (_ : Hooks) (_ : PC) (_ : Rec) (_ : Operand → Res AV) (h : H) : Res (Option AV × H) := f h
noncomputable def oCall (c : Call) (X : Hooks) (pc : PC) (r : Rec) (ea : Operand → Res AV) (h : H) : Res (Option AV × H) := (callO X pc r ea c h).bind fun x => .ok (some x.1, x.2)
noncomputable def oNo (_ : Hooks) (_ : PC) (_ : Rec) (_ : Operand → Res AV) (_ : H) : Res (Option AV × H) := .fail "an operation that is not covered"

noncomputable def opC (r : Rec) (ea : Operand → Res AV) (h : H) (c : Cls) : Res (Option AV × H) :=
  Cls.rec (motive := fun _ => Hooks → PC → Rec → (Operand → Res AV) → H → Res (Option AV × H)) oPure oLoad oAlloc oHeap oCall oNo c X pc r ea h

/-- Any operation: a value (none: nothing is told), and the heap. -/
noncomputable def opA (r : Rec) (ea : Operand → Res AV) (h : H) (op : Op) : Res (Option AV × H) := opC X pc r ea h (cls P pc ea op)

noncomputable def pTree (tm : Tm) (d : Nat) (v : Option AV) : Tm := ⟨tm.mask, T.set v tm.tree d, tm.loc⟩
noncomputable def pLoc (tm : Tm) (d : Nat) (v : Option AV) : Tm := ⟨tm.mask, tm.tree, (d, v) :: tm.loc⟩
noncomputable def Tm.put (tm : Tm) (d : Nat) (v : Option AV) : Tm := Bool.rec (pLoc tm d v) (pTree tm d v) (bit tm.mask d)

noncomputable def pDst (d : Nat) (nt : Nat) (tm : Tm) (v : Option AV) : Res Tm := Bool.rec (.fail "a temporary beyond the frame's") (.ok (tm.put d v)) (Nat.blt d nt)
noncomputable def pNone (_ : Nat) (tm : Tm) (_ : Option AV) : Res Tm := .ok tm
noncomputable def putA (nt : Nat) (tm : Tm) (dst : Option Nat) (v : Option AV) : Res Tm := Option.rec (motive := fun _ => Nat → Tm → Option AV → Res Tm) pNone pDst dst nt tm v

/-- Is it to be done? -/
noncomputable def wGuard (g : Nat × Bool) (pc : PC) (ops : List Oper) (tm : Tm) : Res Bool :=
  match nth ops g.1 with
  | none => .fail "guard"
  | some o =>
    match o.dst with
    | none => .fail "guard"
    | some d =>
      match tm.get d with
      | some (.bool b) => (decR pc b).bind fun t => .ok (t == g.2)
      | some (.tup []) => .ok false     -- it was not done itself
      | _ => .fail "guard: what it hangs on is not known"
noncomputable def wNone (_ : PC) (_ : List Oper) (_ : Tm) : Res Bool := .ok true
noncomputable def wantA (ops : List Oper) (tm : Tm) (o : Oper) : Res Bool := Option.rec (motive := fun _ => PC → List Oper → Tm → Res Bool) wNone wGuard o.guard pc ops tm

noncomputable def stepDo (r : Rec) (fr : Fr) (o : Oper) (tm : Tm) (h : H) : Res (Tm × H) :=
  (opA P X pc r (evalA tm) h o.op).bind fun x => (putA fr.nt tm o.dst x.1).bind fun tm => .ok (tm, x.2)
noncomputable def stepSkip (fr : Fr) (o : Oper) (tm : Tm) (h : H) : Res (Tm × H) :=
  (putA fr.nt tm o.dst (some (.tup []))).bind fun tm => .ok (tm, h)
noncomputable def stepO (r : Rec) (fr : Fr) (ops : List Oper) (o : Oper) (tm : Tm) (h : H) : Res (Tm × H) :=
  (wantA pc ops tm o).bind fun w => Bool.rec (motive := fun _ => Res (Tm × H)) (stepSkip fr o tm h) (stepDo P X pc r fr o tm h) w

noncomputable def opsA (r : Rec) (fr : Fr) (ops l : List Oper) (tm : Tm) (h : H) : Res (Tm × H) :=
  List.rec (motive := fun _ => Tm → H → Res (Tm × H)) (fun tm h => .ok (tm, h)) (fun o _ ih tm h => (stepO P X pc r fr ops o tm h).bind fun x => ih x.1 x.2) l tm h

end
end Go.Ev

/- The evaluator: regions whose order is open, statements, functions; no theorem of the program yet; no conditions. -/
namespace Go.Ev

noncomputable def sesBeq : List SE → List SE → Bool
  | [], [] => true
  | a :: as, b :: bs => a.beq b && sesBeq as bs
  | _, _ => false

mutual
noncomputable def AV.beq : AV → AV → Bool
  | .int k a, .int l b => ikBeq k l && a.beq b
  | .bool a, .bool b => a.beq b
  | .str n a, .str m b => Nat.beq n m && sesBeq a b
  | .nilp, .nilp | .nils, .nils | .emp, .emp | .nilm, .nilm | .nilf, .nilf | .nili, .nili => true
  | .ptr a b, .ptr c d => Nat.beq a c && Nat.beq b d
  | .ptrv a b c d e, .ptrv a' b' c' d' e' => Nat.beq a a' && (Nat.beq b b' && (Nat.beq c c' && (Nat.beq d d' && e.beq e')))
  | .pick a e, .pick b f => e.beq f && avsBeq a b
  | .slc a b c d e f, .slc a' b' c' d' e' f' => Nat.beq a a' && Nat.beq b b' && Nat.beq c c' && (d == d') && Nat.beq e e' && Nat.beq f f'
  | .map a, .map b => Nat.beq a b
  | .func (.func f) a b, .func (.func g) c d => Nat.beq f g && avsBeq a c && avsBeq b d
  | .func (.yield f) a b, .func (.yield g) c d => Nat.beq f g && avsBeq a c && avsBeq b d
  | .iface t v, .iface u w => Nat.beq t u && v.beq w
  | .agg a, .agg b => avsBeq a b
  | .tup a, .tup b => avsBeq a b
  | _, _ => false
noncomputable def avsBeq : List AV → List AV → Bool
  | [], [] => true
  | a :: as, b :: bs => a.beq b && avsBeq as bs
  | _, _ => false
end

/-! ### A region whose order is open -/
/-- The edges that bind. -/
noncomputable def ons (o : Oper) : List Nat := o.after.toList.filterMap fun e => if Region.binds .any e then some e.on else none

noncomputable def orAll (bs : List Nat) : List Nat → Nat
  | [] => 0
  | i :: r => Nat.lor (Nat.lor (Nat.shiftLeft 1 i) ((nth bs i).getD 0)) (orAll bs r)

/-- Of each operation: what stands ahead of it, as bits. -/
noncomputable def befs : List Oper → List Nat → List Nat
  | [], bs => bs
  | o :: r, bs => befs r (bs ++ [orAll bs (ons o)])

inductive Kind where
  | pure | load | alloc | anchor

noncomputable def noEa : Operand → Res AV := fun _ => .fail ""
noncomputable def noH : H := ⟨0, .nil⟩

noncomputable def looks (ops : List Oper) (o : Oper) : List Nat :=
  (o.op.operands.toList.filterMap fun | .tmp t => some t | _ => none) ++
  (match o.guard with
   | some (g, _) => (match nth ops g with
     | some q => q.dst.toList
     | none => [])
   | none => [])

noncomputable def has : List Nat → Nat → Bool
  | [], _ => false
  | x :: r, y => Nat.beq x y || has r y

section
variable (P : Program)
noncomputable def kindC : Cls → Kind
  | .pure _ => .pure
  | .load _ => .load
  | .alloc _ => .alloc
  | _ => .anchor
noncomputable def kindO (op : Op) : Kind := kindC (cls P [] noEa op)

/-- May i and j (i ahead of j in the text) be done either way round, as far as temporaries go; or is i ahead of j anyway? -/
noncomputable def apartO (ops : List Oper) (i : Nat) (x : Oper) (y : Oper) (by_ : Nat) : Bool :=
  bit by_ i ||
    ((match x.dst with
     | some d => !(has (looks ops y) d) && (match y.dst with
       | some e => !(Nat.beq d e)
       | none => true)
     | none => true) &&
     (match y.dst with
     | some e => !(has (looks ops x) e)
     | none => true))

noncomputable def apartAll (ops : List Oper) (y : Oper) (by_ : Nat) : List Oper → Nat → Nat → Bool
  | [], _, _ => true
  | x :: r, i, j => Nat.ble j i || (apartO ops i x y by_ && apartAll ops y by_ r (i + 1) j)

/-- Region's form: what the law of open orders asks. -/
noncomputable def regOKGo (ops : List Oper) (bs : List Nat) : List Oper → Nat → Bool
  | [], _ => true
  | o :: r, j =>
    (ons o).all (fun e => Nat.blt e j) && (Nat.beq ((nth bs j).getD 0) (orAll bs (ons o)) && (apartAll ops o ((nth bs j).getD 0) ops 0 j && regOKGo ops bs r (Nat.succ j)))

noncomputable def regOK (ops : List Oper) (bs : List Nat) : Bool := regOKGo ops bs ops 0

noncomputable def Kind.isAnchor : Kind → Bool
  | .anchor => true
  | _ => false

/-- Those of the first n that are bits of m, but none of done. -/
noncomputable def picks (m done : Nat) : Nat → List Nat
  | 0 => []
  | n + 1 => picks m done n ++ (bif bit m n && !(bit done n) then [n] else [])

/-- The order in which the evaluator goes: the anchors in the text's order, each behind what it hangs on alone. -/
noncomputable def canonGo (bs : List Nat) (n : Nat) : List Oper → Nat → Nat → List Nat
  | [], _, done => picks (Nat.shiftLeft 1 n - 1) done n
  | o :: r, j, done =>
    match kindO P o.op with
    | .anchor =>
      let b := (nth bs j).getD 0
      picks b done j ++ [j] ++ canonGo bs n r (j + 1) (Nat.lor (Nat.lor done b) (Nat.shiftLeft 1 j))
    | _ => canonGo bs n r (j + 1) done

noncomputable def canon (ops : List Oper) (bs : List Nat) : List Nat := canonGo P bs ops.length ops 0 0

variable (X : Hooks) (pc : PC)

/-- Does a load tell the same ahead of each anchor that it may be done ahead of? -/
noncomputable def sameAhead (ea : Operand → Res AV) (op : Op) (v : AV) (b : Nat) : List (Nat × H) → Bool
  | [] => true
  | (a, h) :: r =>
    (bit b a || (match cls P pc ea op with
      | .load f => (match f h with
        | .ok w => w.beq v
        | _ => false)
      | _ => false)) && sameAhead ea op v b r

noncomputable def addrBelow (ea : Operand → Res AV) (base : Nat) : Op → Bool
  | .load _ a => (match ea a with
    | .ok (.ptr id _) => Nat.blt id base
    | .ok (.ptrv id _ _ _ _) => Nat.blt id base
    | _ => false)
  | _ => false

/-- One operation of such a region: i its place, b what stands ahead of it; blocks that it makes have the number base + i. -/
noncomputable def stepD (r : Rec) (fr : Fr) (ops : List Oper) (base i b : Nat) (o : Oper) (tm : Tm) (h : H) (snaps : List (Nat × H)) : Res (Tm × H × List (Nat × H)) :=
  (wantA pc ops tm o).bind fun w =>
    bif w then
      match cls P pc (evalA tm) o.op with
      | .pure v => v.bind fun v => (putA fr.nt tm o.dst (some v)).bind fun tm => .ok (tm, h, snaps)
      | .load f => (f h).bind fun v =>
          bif addrBelow (evalA tm) base o.op && sameAhead P pc (evalA tm) o.op v b snaps then (putA fr.nt tm o.dst (some v)).bind fun tm => .ok (tm, h, snaps)
          else .fail "a load whose order matters"
      | .alloc x => x.bind fun x => (putA fr.nt tm o.dst (some (x.2 (base + i)))).bind fun tm => .ok (tm, h.set (base + i) x.1, snaps)
      | c => (opC X pc r (evalA tm) h c).bind fun x => (putA fr.nt tm o.dst x.1).bind fun tm => .ok (tm, x.2, (i, h) :: snaps)
    else (putA fr.nt tm o.dst (some (.tup []))).bind fun tm => .ok (tm, h, (match kindO P o.op with
      | .anchor => (i, h) :: snaps
      | _ => snaps))

noncomputable def opsD (r : Rec) (fr : Fr) (ops : List Oper) (bs : List Nat) (base full : Nat) : List Nat → Tm → H → List (Nat × H) → Nat → Res (Tm × H)
  | [], tm, h, _, done => bif Nat.beq done full then .ok (tm, h) else .fail "opsD: not all"
  | i :: l, tm, h, snaps, done =>
    match nth ops i with
    | none => .fail "opsD"
    | some o =>
      bif bit done i then .fail "opsD: twice"
      else bif Nat.beq (Nat.land ((nth bs i).getD 0) done) ((nth bs i).getD 0) && (!(kindO P o.op).isAnchor || Nat.beq done ((nth bs i).getD 0)) then
        (stepD P X pc r fr ops base i ((nth bs i).getD 0) o tm h snaps).bind fun x => opsD r fr ops bs base full l x.1 x.2.1 x.2.2 (Nat.lor done (Nat.shiftLeft 1 i))
      else .fail "opsD: too early"

noncomputable def regionD (r : Rec) (fr : Fr) (ops : List Oper) (tm : Tm) (h : H) : Res (Tm × H) :=
  bif regOK ops (befs ops []) then
    opsD P X pc r fr ops (befs ops []) h.next (Nat.shiftLeft 1 ops.length - 1) (canon P ops (befs ops [])) tm ⟨h.next + ops.length, h.tr⟩ [] 0
  else .fail "a region whose order is open, of a form that is not covered"

/-! ### Which temporaries outlive a region -/
/-- Of a region: temporaries that it reads and has not written. -/
noncomputable def freeOps (ops : List Oper) : List Oper → Nat → Nat → Nat
  | [], _, m => m
  | o :: r, w, m =>
    freeOps ops r (match o.dst with
      | some d => Nat.lor w (Nat.shiftLeft 1 d)
      | none => w) ((looks ops o).foldl (fun m t => bif bit w t then m else Nat.lor m (Nat.shiftLeft 1 t)) m)

def opndMask : Operand → Nat
  | .tmp t => Nat.shiftLeft 1 t
  | _ => 0

noncomputable def freeC : Code → Nat
  | .region _ ops _ => freeOps ops.toList ops.toList 0 0
  | .seq a b => Nat.lor (freeC a) (freeC b)
  | .cond c a b => Nat.lor (opndMask c) (Nat.lor (freeC a) (freeC b))
  | .block _ b => freeC b
  | .loop b => freeC b
  | .scope b => freeC b
  | .rangeFunc f _ a b => Nat.lor (opndMask f) (Nat.lor (freeC a) (freeC b))
  | _ => 0

noncomputable def maskOf (fn : Func) : Nat :=
  fn.results.toList.foldl (fun m r => Nat.lor m (Nat.shiftLeft 1 (match r with
    | .tmp t => t
    | .cell a _ => a))) (match fn.body with
    | some c => freeC c
    | none => 0)

/-! ### Statements -/
noncomputable def exitOf (c : Code) : Option Ex :=
  match c with
  | .ret => some .ret
  | .exit id => some (.exit id)
  | .goto l => some (.goto l)
  | _ => none

noncomputable def loopDfr (h : H) : Option Nat → Option (Nat × H × List Nat)
  | some l => (match h.get l with
    | some (.loop _ _ _ _ _ _ _ _ _ d) => some (d, h, [])
    | _ => none)
  | none => some (h.next, h.new .defs, [h.next])

noncomputable def tmOf (fr : Fr) (st : St) : Tm := ⟨fr.mask, st.tm, []⟩

noncomputable def rangeEnd (l : Nat) (tm : T AV) (marks : List Nat) (h : H) : Res (Ex × St) :=
  match h.get l with
  | some (.loop fn nt mask tm0 ps assign body s pend d) =>
    (match s with
    | .busy => .fail "range: busy"
    | _ =>
      match pend with
      | none => .ok (.normal, ⟨tm, h.set l (.loop fn nt mask tm0 ps assign body .exhausted pend d), marks⟩)
      | some c => (match exitOf c with
        | some e => .ok (e, ⟨tm, h.set l (.loop fn nt mask tm0 ps assign body .exhausted pend d), marks⟩)
        | none => .fail "range: a jump"))
  | _ => .fail "range: the loop is gone"

/-- A call of a function that has a body. -/
noncomputable def callE (r : Rec) (f : Nat) (args : List AV) (h : H) : Res (AV × H) :=
  match X.sum f with
  | some g => g pc args h
  | none =>
    match X.ext f with
    | some _ => .fail "range over a function without a body"
    | none => r.fn f args h

noncomputable def rangeA (r : Rec) (fr : Fr) (f : Operand) (ps : List Nat) (assign body : Code) (st : St) : Res (Ex × St) :=
  match loopDfr st.h fr.round with
  | none => .fail "range: no such loop"
  | some (d, h, mk) =>
    (evalA (tmOf fr st) f).bind fun fv =>
      match fv with
      | .func (.func g) a b =>
        (callE X pc r g (a ++ [.func (.yield h.next) [] []] ++ b) (h.new (.loop fr.fn fr.nt fr.mask st.tm ps assign body .ready none d))).bind fun x => rangeEnd h.next st.tm (mk ++ st.marks) x.2
      | _ => .fail "range over what"

end
abbrev CodeF : Type := Program → Hooks → PC → Rec → Fr → St → Res (Ex × St)
noncomputable def cNormal : CodeF := fun _ _ _ _ _ st => .ok (.normal, st)
noncomputable def cSeq (r : Rec) (fr : Fr) (b : Code) (x : Ex × St) : Res (Ex × St) :=
  Ex.rec (motive := fun _ => Res (Ex × St)) (r.code fr b x.2) (fun id => .ok (.exit id, x.2)) (fun l => .ok (.goto l, x.2)) (.ok (.ret, x.2)) x.1
noncomputable def cRegion (_ : Nat) (ops : Array Oper) (draw : Bool) : CodeF := fun P X pc r fr st =>
  (Bool.rec (motive := fun _ => Res (Tm × H)) (opsA P X pc r fr ops.toList ops.toList (tmOf fr st) st.h) (regionD P X pc r fr ops.toList (tmOf fr st) st.h) draw).bind fun x => .ok (.normal, ⟨x.1.tree, x.2, st.marks⟩)
noncomputable def cSeqC (a b : Code) (_ _ : CodeF) : CodeF := fun _ _ _ r fr st => (r.code fr a st).bind (cSeq r fr b)
noncomputable def cTest (pc : PC) (r : Rec) (fr : Fr) (a b : Code) (st : St) : AV → Res (Ex × St)
  | .bool s => (decR pc s).bind fun t => Bool.rec (motive := fun _ => Res (Ex × St)) (r.code fr b st) (r.code fr a st) t
  | _ => .fail "cond"
noncomputable def cCond (c : Operand) (a b : Code) (_ _ : CodeF) : CodeF := fun _ _ pc r fr st => (evalA (tmOf fr st) c).bind (cTest pc r fr a b st)
noncomputable def cOut (id : Nat) (x : Ex × St) : Res (Ex × St) :=
  match x.1 with
  | .exit j => bif Nat.beq j id then .ok (.normal, x.2) else .ok (.exit j, x.2)
  | e => .ok (e, x.2)
noncomputable def cBlock (id : Nat) (b : Code) (_ : CodeF) : CodeF := fun _ _ _ r fr st => (r.code fr b st).bind (cOut id)
noncomputable def cLoop (b : Code) (_ : CodeF) : CodeF := fun _ _ _ r fr st => r.loop fr b st
noncomputable def cExit (id : Nat) : CodeF := fun _ _ _ _ _ st => .ok (.exit id, st)
noncomputable def cGoto (l : Nat) : CodeF := fun _ _ _ _ _ st => .ok (.goto l, st)
noncomputable def cRet : CodeF := fun _ _ _ _ _ st => .ok (.ret, st)
noncomputable def cNoGoto (x : Ex × St) : Res (Ex × St) :=
  match x.1 with
  | .goto _ => .fail "goto"
  | e => .ok (e, x.2)
noncomputable def cScope (b : Code) (_ : CodeF) : CodeF := fun _ _ _ r fr st => (r.code fr b st).bind cNoGoto
noncomputable def cRange (f : Operand) (ps : Array Tmp) (assign body : Code) (_ _ : CodeF) : CodeF := fun _ X pc r fr st => rangeA X pc r fr f ps.toList assign body st
noncomputable def cRefuse (_ : String) : CodeF := fun _ _ _ _ _ _ => .fail "a refused statement"

section
variable (P : Program) (X : Hooks) (pc : PC)
noncomputable def codeA (r : Rec) (fr : Fr) (c : Code) (st : St) : Res (Ex × St) :=
  Code.rec (motive := fun _ => CodeF) cNormal cRegion cSeqC cCond cBlock cLoop cRange cExit cScope (fun _ => cNormal) cGoto cRet cRefuse c P X pc r fr st

noncomputable def loopNext (r : Rec) (fr : Fr) (body : Code) (x : Ex × St) : Res (Ex × St) :=
  Ex.rec (motive := fun _ => Res (Ex × St)) (r.loop fr body x.2) (fun id => .ok (.exit id, x.2)) (fun l => .ok (.goto l, x.2)) (.ok (.ret, x.2)) x.1
noncomputable def loopA (r : Rec) (fr : Fr) (body : Code) (st : St) : Res (Ex × St) := (r.code fr body st).bind (loopNext r fr body)

noncomputable def takeA (h : H) : List Nat → Res H
  | [] => .ok h
  | id :: r => match h.get id with
    | some .defs => takeA (h.del id) r
    | _ => .fail "deferred calls"

noncomputable def resultsA (tm : Tm) (h : H) : List ResultVar → Res (List AV)
  | [] => .ok []
  | .tmp t :: r => (Res.ofO "a result" (tm.get t)).bind fun v => (resultsA tm h r).bind fun vs => .ok (v :: vs)
  | .cell a t :: r => (Res.ofO "a result" (tm.get a)).bind fun p => (aLoad P h t p).bind fun v => (resultsA tm h r).bind fun vs => .ok (v :: vs)

def oneOf : List AV → AV
  | [v] => v
  | vs => .tup vs

noncomputable def fnEnd (mask : Nat) (rs : List ResultVar) (x : Ex × St) : Res (AV × H) :=
  match x.1 with
  | .normal | .ret => (takeA x.2.h x.2.marks).bind fun h => (resultsA P ⟨mask, x.2.tm, []⟩ h rs).bind fun vs => .ok (oneOf vs, h)
  | _ => .fail "a jump out of a function"

/-- The arguments of the mask. -/
noncomputable def argsT (mask : Nat) (t : T AV) : Nat → List AV → T AV
  | _, [] => t
  | k, v :: vs => argsT mask (bif bit mask k then t.put k v else t) (Nat.succ k) vs

noncomputable def fnA (r : Rec) (f : Nat) (args : List AV) (h : H) : Res (AV × H) :=
  match P.funcs[f]? with
  | none => .fail "no such function"
  | some fn =>
    match fn.body with
    | none => .fail "a function without a body"
    | some c =>
      bif fn.name == "runtime.NumGoroutine" then .fail "NumGoroutine"
      else bif Nat.ble args.length fn.ntmps then
        (r.code ⟨f, fn.ntmps, maskOf fn, none⟩ c ⟨argsT (maskOf fn) .nil 0 args, h, []⟩).bind (fnEnd P (maskOf fn) fn.results.toList)
      else .fail "too many arguments"

noncomputable def iter (n : Nat) : Rec :=
  Nat.rec (motive := fun _ => Rec) ⟨fun _ _ _ => .fail "fuel", fun _ _ _ => .fail "fuel", fun _ _ _ => .fail "fuel"⟩ (fun _ r => ⟨codeA P X pc r, loopA r, fnA P r⟩) n

/-- A call, by so much fuel. -/
noncomputable def run (n f : Nat) (args : List AV) (h : H) : Res (AV × H) := callF X pc (iter P X pc n) f args h
end
end Go.Ev
