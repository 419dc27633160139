/- Definitions of an evaluator for a part of the model's language, over an abstract heap with symbolic whole numbers: no theorem of the program yet; no conditions. -/
import Derived.CallsIn
import Derived.DefersIn
import Derived.LoopNIn
import Derived.RangeFuncIn
set_option linter.unusedSimpArgs false
set_option linter.unusedVariables false
namespace Go.Ev

/-! ### A tree keyed by numbers -/
inductive T (α : Type) where
  | nil
  | node (v : Option α) (l r : T α)

noncomputable def T.get {α : Type} (t : T α) : Nat → Option α :=
  T.rec (motive := fun _ => Nat → Option α) (fun _ => none)
    (fun v _ _ gl gr k => Bool.rec (Bool.rec (gr (Nat.shiftRight (Nat.sub k 1) 1)) (gl (Nat.shiftRight k 1)) (Nat.beq (Nat.land k 1) 1)) v (Nat.beq k 0)) t

noncomputable def T.mk1 {α : Type} (x : Option α) (f : Nat) : Nat → T α :=
  Nat.rec (motive := fun _ => Nat → T α) (fun _ => .nil)
    (fun _ ih k => Bool.rec (Bool.rec (.node none .nil (ih (Nat.shiftRight (Nat.sub k 1) 1))) (.node none (ih (Nat.shiftRight k 1)) .nil) (Nat.beq (Nat.land k 1) 1)) (.node x .nil .nil) (Nat.beq k 0)) f

noncomputable def T.set {α : Type} (x : Option α) (t : T α) : Nat → T α :=
  T.rec (motive := fun _ => Nat → T α) (fun k => T.mk1 x (Nat.succ k) k)
    (fun v l r sl sr k => Bool.rec (Bool.rec (.node v l (sr (Nat.shiftRight (Nat.sub k 1) 1))) (.node v (sl (Nat.shiftRight k 1)) r) (Nat.beq (Nat.land k 1) 1)) (.node x l r) (Nat.beq k 0)) t

noncomputable def T.put {α : Type} (t : T α) (k : Nat) (x : α) : T α := T.set (some x) t k
noncomputable def T.del {α : Type} (t : T α) (k : Nat) : T α := T.set none t k

/-- Values from place k on. -/
noncomputable def T.puts {α : Type} (t : T α) (k : Nat) (xs : List α) : T α :=
  List.rec (motive := fun _ => T α → Nat → T α) (fun t _ => t) (fun x _ ih t k => ih (t.put k x) (Nat.succ k)) xs t k

/-- n values from place k on. -/
noncomputable def T.gets {α : Type} (t : T α) (k n : Nat) : Option (List α) :=
  Nat.rec (motive := fun _ => Nat → Option (List α)) (fun _ => some [])
    (fun _ ih k => Option.rec none (fun x => Option.rec none (fun xs => some (x :: xs)) (ih (Nat.succ k))) (t.get k)) n k

/-! ### Symbolic numbers and tests -/
inductive BOp where
  | and | or | xor | andNot

inductive SE where
  | lit (n : Int)
  | var (i : Nat)
  | wrap (k : IntKind) (e : SE)
  | add (a b : SE)
  | sub (a b : SE)
  | mul (a b : SE)
  | quo (a b : SE)
  | rem (a b : SE)
  | shl (a : SE) (n : Nat)
  | shr (a : SE) (n : Nat)
  | bits (o : BOp) (k : IntKind) (a b : SE)
  | app (g : Nat) (a : SE)
  | nil
  | cons (a b : SE)

inductive SB where
  | lit (b : Bool)
  | lt (a b : SE)
  | le (a b : SE)
  | eq (a b : SE)
  | not (a : SB)
  | and (a b : SB)
  | app (g : Nat) (a : SE)

/-- What variables and functions stand for. -/
structure Env where
  v : Nat → Int
  fn : Nat → List Int → Int
  pr : Nat → List Int → Bool

def bitOp (o : BOp) (k : IntKind) (x y : Int) : Int :=
  let a := BitVec.ofInt k.bits x
  let b := BitVec.ofInt k.bits y
  match o with
  | .and => k.wrap (a &&& b).toNat
  | .or => k.wrap (a ||| b).toNat
  | .xor => k.wrap (a ^^^ b).toNat
  | .andNot => k.wrap (a &&& ~~~b).toNat

mutual
def SE.den (ρ : Env) : SE → Int
  | .lit n => n
  | .var i => ρ.v i
  | .wrap k e => k.wrap (e.den ρ)
  | .add a b => a.den ρ + b.den ρ
  | .sub a b => a.den ρ - b.den ρ
  | .mul a b => a.den ρ * b.den ρ
  | .quo a b => (a.den ρ).tdiv (b.den ρ)
  | .rem a b => (a.den ρ).tmod (b.den ρ)
  | .shl a n => a.den ρ * 2 ^ n
  | .shr a n => (a.den ρ).fdiv (2 ^ n)
  | .bits o k a b => bitOp o k (a.den ρ) (b.den ρ)
  | .app g a => ρ.fn g (a.dens ρ)
  | .nil => 0
  | .cons _ _ => 0
def SE.dens (ρ : Env) : SE → List Int
  | .cons a b => a.den ρ :: b.dens ρ
  | _ => []
end

def SB.den (ρ : Env) : SB → Bool
  | .lit b => b
  | .lt a b => decide (a.den ρ < b.den ρ)
  | .le a b => decide (a.den ρ ≤ b.den ρ)
  | .eq a b => a.den ρ == b.den ρ
  | .not a => !a.den ρ
  | .and a b => a.den ρ && b.den ρ
  | .app g a => ρ.pr g (a.dens ρ)

def BOp.beq : BOp → BOp → Bool
  | .and, .and | .or, .or | .xor, .xor | .andNot, .andNot => true
  | _, _ => false
def ikBeq : IntKind → IntKind → Bool
  | .i8, .i8 | .i16, .i16 | .i32, .i32 | .i64, .i64 | .u8, .u8 | .u16, .u16 | .u32, .u32 | .u64, .u64 => true
  | _, _ => false
def intBeq : Int → Int → Bool
  | .ofNat a, .ofNat b => Nat.beq a b
  | .negSucc a, .negSucc b => Nat.beq a b
  | _, _ => false

def SE.beq : SE → SE → Bool
  | .lit a, .lit b => intBeq a b
  | .var i, .var j => Nat.beq i j
  | .wrap k a, .wrap l b => ikBeq k l && a.beq b
  | .add a b, .add c d | .sub a b, .sub c d | .mul a b, .mul c d | .quo a b, .quo c d | .rem a b, .rem c d | .cons a b, .cons c d => a.beq c && b.beq d
  | .shl a n, .shl b m | .shr a n, .shr b m => Nat.beq n m && a.beq b
  | .bits o k a b, .bits p l c d => o.beq p && ikBeq k l && a.beq c && b.beq d
  | .app g a, .app h b => Nat.beq g h && a.beq b
  | .nil, .nil => true
  | _, _ => false

def SB.beq : SB → SB → Bool
  | .lit a, .lit b => a == b
  | .lt a b, .lt c d | .le a b, .le c d | .eq a b, .eq c d => a.beq c && b.beq d
  | .not a, .not b => a.beq b
  | .and a b, .and c d => a.beq c && b.beq d
  | .app g a, .app h b => Nat.beq g h && a.beq b
  | _, _ => false

/-! ### What is taken for decided -/
abbrev PC := List (SB × Bool)
def PC.holds (ρ : Env) (pc : PC) : Prop := ∀ x ∈ pc, x.1.den ρ = x.2

/-- A value that is told of e. -/
def PC.eqOf (e : SE) : PC → Option Int
  | [] => none
  | (.eq a (.lit n), true) :: r => bif a.beq e then some n else PC.eqOf e r
  | _ :: r => PC.eqOf e r

def maxO (a : Option Int) (b : Int) : Option Int :=
  match a with
  | none => some b
  | some a => some (if a ≤ b then b else a)
def minO (a : Option Int) (b : Int) : Option Int :=
  match a with
  | none => some b
  | some a => some (if a ≤ b then a else b)

/-- Between which numbers e lies. -/
def PC.lo (e : SE) : PC → Option Int
  | [] => none
  | (.lt a (.lit n), false) :: r => bif a.beq e then maxO (PC.lo e r) n else PC.lo e r
  | (.le a (.lit n), false) :: r => bif a.beq e then maxO (PC.lo e r) (n + 1) else PC.lo e r
  | (.lt (.lit n) a, true) :: r => bif a.beq e then maxO (PC.lo e r) (n + 1) else PC.lo e r
  | (.le (.lit n) a, true) :: r => bif a.beq e then maxO (PC.lo e r) n else PC.lo e r
  | _ :: r => PC.lo e r
def PC.hi (e : SE) : PC → Option Int
  | [] => none
  | (.lt a (.lit n), true) :: r => bif a.beq e then minO (PC.hi e r) (n - 1) else PC.hi e r
  | (.le a (.lit n), true) :: r => bif a.beq e then minO (PC.hi e r) n else PC.hi e r
  | (.lt (.lit n) a, false) :: r => bif a.beq e then minO (PC.hi e r) n else PC.hi e r
  | (.le (.lit n) a, false) :: r => bif a.beq e then minO (PC.hi e r) (n - 1) else PC.hi e r
  | _ :: r => PC.hi e r

def PC.known (b : SB) : PC → Option Bool
  | [] => none
  | (a, t) :: r => bif a.beq b then some t else PC.known b r

def ltLit (pc : PC) (a b : SE) : Option Bool :=
  match a, b with
  | .lit x, .lit y => some (decide (x < y))
  | .lit x, e =>
    match pc.lo e with
    | some l => if x < l then some true else match pc.hi e with
      | some h => if h ≤ x then some false else none
      | none => none
    | none => match pc.hi e with
      | some h => if h ≤ x then some false else none
      | none => none
  | e, .lit y =>
    match pc.hi e with
    | some h => if h < y then some true else match pc.lo e with
      | some l => if y ≤ l then some false else none
      | none => none
    | none => match pc.lo e with
      | some l => if y ≤ l then some false else none
      | none => none
  | _, _ => none

def leLit (pc : PC) (a b : SE) : Option Bool := (ltLit pc b a).map (!·)

def eqLit (pc : PC) (a b : SE) : Option Bool :=
  match ltLit pc a b with
  | some true => some false
  | l =>
    match ltLit pc b a with
    | some true => some false
    | some false => match l with
      | some false => some true
      | _ => none
    | none => none

/-! ### Tests that hang on one variable of few values -/
def SE.first : SE → Option Nat
  | .var i => some i
  | .wrap _ e | .shl e _ | .shr e _ => e.first
  | .add a b | .sub a b | .mul a b | .quo a b | .rem a b | .bits _ _ a b => match a.first with
    | some i => some i
    | none => b.first
  | _ => none
def SB.first : SB → Option Nat
  | .lt a b | .le a b | .eq a b => match a.first with
    | some i => some i
    | none => b.first
  | .not a => a.first
  | .and a b => match a.first with
    | some i => some i
    | none => b.first
  | _ => none

def op2 (f : Int → Int → Int) : Option Int → Option Int → Option Int
  | some a, some b => some (f a b)
  | _, _ => none
def op1 (f : Int → Int) : Option Int → Option Int
  | some a => some (f a)
  | none => none
def SE.ev (i : Nat) (v : Int) : SE → Option Int
  | .lit n => some n
  | .var j => bif Nat.beq j i then some v else none
  | .wrap k e => op1 k.wrap (e.ev i v)
  | .add a b => op2 (· + ·) (a.ev i v) (b.ev i v)
  | .sub a b => op2 (· - ·) (a.ev i v) (b.ev i v)
  | .mul a b => op2 (· * ·) (a.ev i v) (b.ev i v)
  | .quo a b => op2 Int.tdiv (a.ev i v) (b.ev i v)
  | .rem a b => op2 Int.tmod (a.ev i v) (b.ev i v)
  | .shl a n => op1 (fun x => x * 2 ^ n) (a.ev i v)
  | .shr a n => op1 (fun x => x.fdiv (2 ^ n)) (a.ev i v)
  | .bits o k a b => op2 (bitOp o k) (a.ev i v) (b.ev i v)
  | _ => none
def tst2 (f : Int → Int → Bool) : Option Int → Option Int → Option Bool
  | some a, some b => some (f a b)
  | _, _ => none
def and2 : Option Bool → Option Bool → Option Bool
  | some a, some b => some (a && b)
  | _, _ => none
def not1 : Option Bool → Option Bool
  | some a => some (!a)
  | none => none
def SB.ev (i : Nat) (v : Int) : SB → Option Bool
  | .lit b => some b
  | .lt a b => tst2 (fun x y => decide (x < y)) (a.ev i v) (b.ev i v)
  | .le a b => tst2 (fun x y => decide (x ≤ y)) (a.ev i v) (b.ev i v)
  | .eq a b => tst2 (fun x y => x == y) (a.ev i v) (b.ev i v)
  | .not a => not1 (a.ev i v)
  | .and a b => and2 (a.ev i v) (b.ev i v)
  | .app _ _ => none

/-- May the variable i be v? -/
def alive (i : Nat) (v : Int) (pc : PC) : Bool :=
  pc.all fun x => match x.1.ev i v with
    | some t => t == x.2
    | none => true

def isSome (b : Bool) : Option Bool → Bool
  | some t => t == b
  | none => false

/-- The numbers from l on, n of them, that i may be. -/
def lives (pc : PC) (i : Nat) (l : Int) : Nat → List Int
  | 0 => []
  | n + 1 => bif alive i (l + (Int.ofNat n)) pc then (l + (Int.ofNat n)) :: lives pc i l n else lives pc i l n

/-- A test, by all that its one variable may be (no more than 300 numbers). -/
def exh (pc : PC) (b : SB) : Option Bool :=
  match b.first with
  | none => none
  | some i =>
    match pc.lo (.var i), pc.hi (.var i) with
    | some l, some h =>
      bif decide (h < l + 300) then
        (let vs := lives pc i l (h + 1 - l).toNat
        bif vs.all (fun v => isSome true (b.ev i v)) then some true
        else bif vs.all (fun v => isSome false (b.ev i v)) then some false else none)
      else none
    | _, _ => none

def orExh (pc : PC) (b : SB) : Option Bool → Option Bool
  | some t => some t
  | none => exh pc b

/-- Is b decided? -/
def dec (pc : PC) : SB → Option Bool
  | .lit b => some b
  | .not a => (dec pc a).map (!·)
  | .and a b =>
    match dec pc a with
    | some false => some false
    | some true => dec pc b
    | none => pc.known (.and a b)
  | .lt a b => match ltLit pc a b with
    | some t => some t
    | none => orExh pc (.lt a b) (pc.known (.lt a b))
  | .le a b => match leLit pc a b with
    | some t => some t
    | none => orExh pc (.le a b) (pc.known (.le a b))
  | .eq a b => match eqLit pc a b with
    | some t => some t
    | none => bif a.beq b then some true else orExh pc (.eq a b) (pc.known (.eq a b))
  | .app g a => pc.known (.app g a)

/-- What is to be asked for next, of a test that is not decided. -/
def ask (pc : PC) : SB → SB
  | .not a => ask pc a
  | .and a b => match dec pc a with
    | some _ => ask pc b
    | none => ask pc a
  | b => b

/-- A number, as far as it is told. -/
def nrm (pc : PC) (e : SE) : SE :=
  match e with
  | .lit n => .lit n
  | e => match pc.eqOf e with
    | some n => .lit n
    | none => e

/-! ### Results -/
inductive Res (α : Type) where
  | ok (a : α)
  | need (b : SB)
  | fail (why : String)

noncomputable def Res.bind {α β : Type} (x : Res α) (f : α → Res β) : Res β := Res.rec (motive := fun _ => Res β) f .need .fail x

noncomputable def Res.ofO {α : Type} (why : String) (x : Option α) : Res α := Option.rec (motive := fun _ => Res α) (.fail why) .ok x

/-! ### Values -/
inductive AV where
  | int (k : IntKind) (e : SE)
  | bool (b : SB)
  | str (n : Nat) (bs : List SE)
  | nilp
  | ptr (id off : Nat)
  | nils
  | slc (id off len : Nat) (ex : Bool) (cap es : Nat)     -- ex: the capacity is cap; else it is no less; es: an element's cells
  | emp     -- a slice of no elements, not nil, wherever it lies
  | slv (id off n : Nat) (l : SE) (es : Nat)     -- a slice of l elements, which are n at least
  | nilm
  | map (id : Nat)
  | nilf
  | func (fn : Fn) (first captured : List AV)
  | nili
  | iface (t : Nat) (v : AV)
  | agg (cs : List AV)
  | tup (vs : List AV)

def AV.cells : AV → List AV
  | .agg cs => cs
  | v => [v]

/-- Is it the value of one cell? -/
def AV.one : AV → Bool
  | .agg _ | .tup _ => false
  | _ => true

mutual
def ofValue : Value → Option AV
  | .bool b => some (.bool (.lit b))
  | .int k n => some (.int k (.lit n))
  | .string s => some (.str s.data.toList.length (s.data.toList.map fun b => .lit (.ofNat b.toNat)))
  | .pointer none => some .nilp
  | .slice none 0 0 => some .nils
  | .map none => some .nilm
  | .func (.func f) ⟨a⟩ ⟨b⟩ => match ofValues a, ofValues b with
    | some a, some b => some (.func (.func f) a b)
    | _, _ => none
  | .nilFunc => some .nilf
  | .iface t v => match ofValue v with
    | some v => some (.iface t v)
    | none => none
  | .nilIface => some .nili
  | .agg ⟨cs⟩ => match ofValues cs with
    | some cs => some (.agg cs)
    | none => none
  | .tuple ⟨vs⟩ => match ofValues vs with
    | some vs => some (.tup vs)
    | none => none
  | _ => none
def ofValues : List Value → Option (List AV)
  | [] => some []
  | v :: vs => match ofValue v with
    | none => none
    | some a => match ofValues vs with
      | none => none
      | some as => some (a :: as)
end


/-! ### Types -/
inductive TD where
  | bool
  | int (k : IntKind)
  | str
  | ptr (e : Nat)
  | slc (e : Nat)
  | arr (n e : Nat)
  | struct (fs : List (Nat × Nat × Bool))     -- type, offset, whether the name is not '_'
  | map (k e : Nat)
  | iface
  | oth

def tdOf : TypeDesc → TD
  | .bool => .bool
  | .int k => .int k
  | .string => .str
  | .pointer e => .ptr e
  | .slice e => .slc e
  | .array n e => .arr n e
  | .struct fs => .struct (fs.toList.map fun f => (f.type, f.offset, f.name ≠ "_"))
  | .map k e => .map k e
  | .interface _ => .iface
  | _ => .oth

structure TI where
  d : TD
  size : Nat
  bytes : Nat
  zero : List AV

def tinfo (P : Program) (t : Nat) : Option TI :=
  match P.info? t with
  | none => none
  | some i =>
    match P.underlying t with
    | none => none
    | some d =>
      match i.zero with
      | none => none
      | some z =>
        match ofValue z with
        | none => none
        | some z => some { d := tdOf d, size := i.size, bytes := i.bytes, zero := z.cells }

def TD.agg : TD → Bool
  | .arr .. | .struct .. => true
  | _ => false

/-! ### The heap -/
inductive Blk where
  | cells (own opn : Bool) (ety n : Nat) (vals : T AV)
  | loop (fn nt mask : Nat) (tm : T AV) (ps : List Nat) (assign body : Code) (state : LoopState) (pend : Option Code) (dfr : Nat)
  | defs
  | map (es : List (AV × AV))
  | siter (n : Nat) (bs : List SE) (pos : Nat)

def Blk.own : Blk → Bool
  | .cells own .. => own
  | _ => true

structure H where
  next : Nat
  tr : T Blk

noncomputable def H.get (h : H) (id : Nat) : Option Blk := h.tr.get id
noncomputable def H.set (h : H) (id : Nat) (b : Blk) : H := { h with tr := h.tr.put id b }
noncomputable def H.del (h : H) (id : Nat) : H := { h with tr := h.tr.del id }
noncomputable def H.new (h : H) (b : Blk) : H := { h with next := Nat.succ h.next, tr := h.tr.put h.next b }

/-- n cells from off on. -/
noncomputable def rd (h : H) (id off n : Nat) : Res (List AV) :=
  match h.get id with
  | some (.cells _ _ _ m vals) => bif Nat.ble (off + n) m then .ofO "rd: an unknown cell" (vals.gets off n) else .fail "rd: too far"
  | _ => .fail "rd: no block"

noncomputable def wr (h : H) (id off : Nat) (vs : List AV) : Res H :=
  match h.get id with
  | some (.cells true opn e m vals) =>
    bif Nat.ble (off + vs.length) m && vs.all AV.one then .ok (h.set id (.cells true opn e m (vals.puts off vs))) else .fail "wr: too far"
  | _ => .fail "wr: no block of one's own"

noncomputable def blkOf (opn : Bool) (e : Nat) (cs : List AV) : Blk := .cells true opn e cs.length (T.puts .nil 0 cs)

/-! ### Arithmetic -/
def lim : IntKind → Nat
  | .i8 => 127 | .u8 => 255 | .i16 => 32767 | .u16 => 65535 | .i32 => 2147483647 | .u32 => 4294967295
  | .i64 => 9223372036854775807 | .u64 => 18446744073709551615

def wrapL (k : IntKind) (n : Int) : Int :=
  match n with
  | .ofNat m => bif Nat.ble m (lim k) then .ofNat m else k.wrap (.ofNat m)
  | .negSucc m => k.wrap (.negSucc m)

def wrapE (k : IntKind) : SE → SE
  | .lit n => .lit (wrapL k n)
  | e => .wrap k e
def addE : SE → SE → SE
  | .lit a, .lit b => .lit (a + b)
  | a, b => .add a b
def subE : SE → SE → SE
  | .lit a, .lit b => .lit (a - b)
  | a, b => .sub a b
def mulE : SE → SE → SE
  | .lit a, .lit b => .lit (a * b)
  | a, b => .mul a b
def quoE : SE → SE → SE
  | .lit a, .lit b => .lit (a.tdiv b)
  | a, b => .quo a b
def remE : SE → SE → SE
  | .lit a, .lit b => .lit (a.tmod b)
  | a, b => .rem a b
def shlE : SE → Nat → SE
  | .lit a, n => .lit (a * 2 ^ n)
  | a, n => .shl a n
def shrE : SE → Nat → SE
  | .lit a, n => .lit (a.fdiv (2 ^ n))
  | a, n => .shr a n
def bitsE (o : BOp) (k : IntKind) : SE → SE → SE
  | .lit a, .lit b => .lit (bitOp o k a b)
  | a, b => .bits o k a b
def ltE : SE → SE → SB
  | .lit a, .lit b => .lit (decide (a < b))
  | a, b => .lt a b
def leE : SE → SE → SB
  | .lit a, .lit b => .lit (decide (a ≤ b))
  | a, b => .le a b
def eqE : SE → SE → SB
  | .lit a, .lit b => .lit (intBeq a b)
  | a, b => bif a.beq b then .lit true else .eq a b
def notB : SB → SB
  | .lit b => .lit (!b)
  | .not b => b
  | b => .not b
def andB : SB → SB → SB
  | .lit true, b => b
  | .lit false, _ => .lit false
  | a, .lit true => a
  | _, .lit false => .lit false
  | a, b => .and a b

/-- A test, decided, or asked for. -/
def decR (pc : PC) (b : SB) : Res Bool :=
  match dec pc b with
  | some t => .ok t
  | none => .need (ask pc b)

/-- Which of the numbers from j on, n of them, is e? -/
def which (pc : PC) (e : SE) : Nat → Nat → Res Nat
  | _, 0 => .fail "which: none of them"
  | j, n + 1 =>
    match dec pc (.eq e (.lit (.ofNat j))) with
    | some true => .ok j
    | some false => which pc e (Nat.succ j) n
    | none => .need (.eq e (.lit (.ofNat j)))

/-- A number below n, written out. -/
def below (pc : PC) (e : SE) (n : Nat) : Res Nat :=
  match e with
  | .lit (.ofNat m) => bif Nat.blt m n then .ok m else .fail "below: out of range"
  | .lit (.negSucc _) => .fail "below: out of range"
  | e =>
    match dec pc (.le (.lit 0) e) with
    | none => .need (.le (.lit 0) e)
    | some false => .fail "below: out of range"
    | some true =>
      match dec pc (.lt e (.lit (.ofNat n))) with
      | none => .need (.lt e (.lit (.ofNat n)))
      | some false => .fail "below: out of range"
      | some true => which pc e 0 n

def asI (pc : PC) : AV → Res (IntKind × SE)
  | .int k e => .ok (k, nrm pc e)
  | _ => .fail "a number expected"

def inByte (pc : PC) (e : SE) : Bool :=
  match e with
  | .lit (.ofNat n) => Nat.ble n 255
  | .lit (.negSucc _) => false
  | e => match pc.lo e, pc.hi e with
    | some l, some h => decide (0 ≤ l) && decide (h ≤ 255)
    | _, _ => false

def strEq (pc : PC) : List SE → List SE → Res SB
  | [], [] => .ok (.lit true)
  | a :: as, b :: bs =>
    bif a.beq b then strEq pc as bs
    else bif inByte pc a && inByte pc b then
      match eqE (nrm pc a) (nrm pc b) with
      | .lit false => .ok (.lit false)
      | e => match strEq pc as bs with
        | .ok r => .ok (andB e r)
        | r => r
    else .fail "strEq: a byte out of range"
  | _, _ => .ok (.lit false)

section
variable (P : Program)

def partA (ti : TI) (off : Nat) (cs : List AV) : Option AV :=
  bif ti.d.agg then (bif Nat.ble (off + ti.size) cs.length then some (.agg ((cs.drop off).take ti.size)) else none) else (cs.drop off).head?

def eqfs (ev : Nat → AV → AV → Res SB) : List (Nat × Nat × Bool) → List AV → List AV → Res SB
  | [], _, _ => .ok (.lit true)
  | (t, off, named) :: fs, xs, ys =>
    bif named then
      match tinfo P t with
      | none => .fail "eqv: no type"
      | some ti =>
        match partA ti off xs, partA ti off ys with
        | some x, some y =>
          match ev t x y with
          | .ok a => match eqfs ev fs xs ys with
            | .ok b => .ok (andB a b)
            | r => r
          | r => r
        | _, _ => .fail "eqv: no part"
    else eqfs ev fs xs ys

/-- Are two values of a type the same? -/
def eqv (pc : PC) : Nat → Nat → AV → AV → Res SB
  | 0, _, _, _ => .fail "eqv: fuel"
  | f + 1, t, x, y =>
    match tinfo P t with
    | none => .fail "eqv: no type"
    | some ti =>
      match ti.d, x, y with
      | .bool, .bool a, .bool b =>
        (match a, b with
        | .lit true, b => .ok b
        | .lit false, b => .ok (notB b)
        | a, .lit true => .ok a
        | a, .lit false => .ok (notB a)
        | a, b => match dec pc a with
          | some true => .ok b
          | some false => .ok (notB b)
          | none => .need (ask pc a))
      | .int _, .int k a, .int l b => bif ikBeq k l then .ok (eqE (nrm pc a) (nrm pc b)) else .fail "eqv: kinds"
      | .str, .str n a, .str m b => bif Nat.beq n m then strEq pc a b else .ok (.lit false)
      | .ptr _, .nilp, .nilp => .ok (.lit true)
      | .ptr _, .nilp, .ptr _ _ => .ok (.lit false)
      | .ptr _, .ptr _ _, .nilp => .ok (.lit false)
      | .slc _, .nils, .nils => .ok (.lit true)
      | .slc _, .nils, .slc .. => .ok (.lit false)
      | .slc _, .slc .., .nils => .ok (.lit false)
      | .slc _, .nils, .emp => .ok (.lit false)
      | .slc _, .emp, .nils => .ok (.lit false)
      | .map _ _, .nilm, .nilm => .ok (.lit true)
      | .map _ _, .nilm, .map _ => .ok (.lit false)
      | .map _ _, .map _, .nilm => .ok (.lit false)
      | .iface, .nili, .nili => .ok (.lit true)
      | .iface, .nili, .iface _ _ => .ok (.lit false)
      | .iface, .iface _ _, .nili => .ok (.lit false)
      | .struct fs, .agg xs, .agg ys => bif P.stoodInHeld t then .fail "eqv: stood in" else eqfs P (eqv pc f) fs xs ys
      | _, _, _ => .fail "eqv: no such values"
end

end Go.Ev
