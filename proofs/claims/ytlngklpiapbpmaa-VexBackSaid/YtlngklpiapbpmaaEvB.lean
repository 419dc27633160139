/- The evaluator itself: operations, regions, statements, calls; no theorem of the program yet; no conditions. -/
import Derived.Test.YtlngklpiapbpmaaEvA
set_option linter.unusedSimpArgs false
set_option linter.unusedVariables false
namespace Go.Ev
section
variable (P : Program)

/-- What temporaries are known: those of the mask in a tree, for as long as the frame lives; the others in a list, newest first, for as long as the region lasts. -/
structure Tm where
  mask : Nat
  tree : T AV
  loc : List (Nat × Option AV)

def bit (m i : Nat) : Bool := Nat.beq (Nat.land (Nat.shiftRight m i) 1) 1

noncomputable def assoc (l : List (Nat × Option AV)) (t : Nat) : Option AV :=
  List.rec (motive := fun _ => Option AV) none (fun x _ ih => Bool.rec ih x.2 (Nat.beq x.1 t)) l

noncomputable def Tm.get (m : Tm) (t : Nat) : Option AV := Bool.rec (assoc m.loc t) (m.tree.get t) (bit m.mask t)

noncomputable def eTmp (t : Nat) (tm : Tm) : Res AV := .ofO "a temporary that is not known" (tm.get t)
noncomputable def eConst (v : Value) (_ : Tm) : Res AV := .ofO "a constant" (ofValue v)
noncomputable def eGlobal (g : Nat) (_ : Tm) : Res AV := Bool.rec (.fail "a global") (.ok (.ptr g 0)) (Nat.blt g 64)
noncomputable def eFunc (f : Nat) (_ : Tm) : Res AV := .ok (.func (.func f) [] [])
noncomputable def evalA (tm : Tm) (x : Operand) : Res AV := Operand.rec (motive := fun _ => Tm → Res AV) eTmp eConst eGlobal eFunc x tm

noncomputable def tdR (t : Nat) : Res TI := .ofO "a type" (tinfo P t)

noncomputable def bopOf : BinOp → Option BOp
  | .and => some .and
  | .or => some .or
  | .xor => some .xor
  | .andNot => some .andNot
  | _ => none

noncomputable def isConstA : Operand → Bool
  | .const _ => true
  | _ => false

noncomputable def shA (l : Bool) (k : IntKind) (a : SE) : SE → Res AV
  | .lit (.ofNat n) =>
    let n := bif Nat.ble n k.bits then n else k.bits
    bif l then .ok (.int k (wrapE k (shlE a n))) else .ok (.int k (shrE a n))
  | _ => .fail "a shift's count"

noncomputable def divA (pc : PC) (q : Bool) (k : IntKind) (a b : SE) : Res AV :=
  match dec pc (eqE b (.lit 0)) with
  | some false => bif q then .ok (.int k (wrapE k (quoE a b))) else .ok (.int k (remE a b))
  | some true => .fail "a division by 0"
  | none => .need (eqE b (.lit 0))

abbrev BinI : Type := PC → IntKind → Bool → SE → SE → Res AV
noncomputable def same? (x : Bool) (v : Res AV) : Res AV := Bool.rec (.fail "binary: kinds") v x
noncomputable def bAdd : BinI := fun _ k s a b => same? s (.ok (.int k (wrapE k (addE a b))))
noncomputable def bSub : BinI := fun _ k s a b => same? s (.ok (.int k (wrapE k (subE a b))))
noncomputable def bMul : BinI := fun _ k s a b => same? s (.ok (.int k (wrapE k (mulE a b))))
noncomputable def bQuo : BinI := fun pc k s a b => same? s (divA pc true k a b)
noncomputable def bRem : BinI := fun pc k s a b => same? s (divA pc false k a b)
noncomputable def bBit (o : BOp) : BinI := fun _ k s a b => same? s (.ok (.int k (bitsE o k a b)))
noncomputable def bShl : BinI := fun _ k _ a b => shA true k a b
noncomputable def bShr : BinI := fun _ k _ a b => shA false k a b
noncomputable def bEql : BinI := fun _ _ s a b => same? s (.ok (.bool (eqE a b)))
noncomputable def bNeq : BinI := fun _ _ s a b => same? s (.ok (.bool (notB (eqE a b))))
noncomputable def bLss : BinI := fun _ _ s a b => same? s (.ok (.bool (ltE a b)))
noncomputable def bLeq : BinI := fun _ _ s a b => same? s (.ok (.bool (leE a b)))
noncomputable def bGtr : BinI := fun _ _ s a b => same? s (.ok (.bool (ltE b a)))
noncomputable def bGeq : BinI := fun _ _ s a b => same? s (.ok (.bool (leE b a)))
noncomputable def binInt (pc : PC) (op : BinOp) (k : IntKind) (same : Bool) (a b : SE) : Res AV :=
  BinOp.rec (motive := fun _ => BinI) bAdd bSub bMul bQuo bRem (bBit .and) (bBit .or) (bBit .xor) bShl bShr (bBit .andNot) bEql bNeq bLss bLeq bGtr bGeq op pc k same a b

noncomputable def binStr (pc : PC) (op : BinOp) (n m : Nat) (a b : List SE) : Res AV :=
  match op with
  | .add => bif Nat.ble (n + m) 4611686018427387904 then .ok (.str (n + m) (a ++ b)) else .fail "a long text"
  | .eql => bif Nat.beq n m then (strEq pc a b).bind fun r => .ok (.bool r) else .ok (.bool (.lit false))
  | .neq => bif Nat.beq n m then (strEq pc a b).bind fun r => .ok (.bool (notB r)) else .ok (.bool (.lit true))
  | _ => .fail "binary: an operator on texts"

noncomputable def binEq (pc : PC) (op : BinOp) (t : Nat) (x y : AV) : Res AV :=
  match op with
  | .eql => (eqv P pc 20 t x y).bind fun r => .ok (.bool r)
  | .neq => (eqv P pc 20 t x y).bind fun r => .ok (.bool (notB r))
  | _ => .fail "binary: an operator"

/-- Neither numbers nor texts. -/
noncomputable def AV.noNum : AV → Bool
  | .int .. | .str .. => false
  | _ => true

noncomputable def AV.isAgg : AV → Bool
  | .agg _ => true
  | _ => false

noncomputable def AV.isNili : AV → Bool
  | .nili => true
  | _ => false

noncomputable def binOther (pc : PC) (op : BinOp) (t : Nat) (cst : Bool) (x y : AV) : Res AV :=
  bif x.noNum && y.noNum then
    bif x.isAgg && y.isAgg && P.eqGuardType P.depth t then .fail "binary: interfaces inside"
    else bif x.isNili && y.isNili && !cst then .fail "binary: two nil values of an interface"
    else binEq P pc op t x y
  else .fail "binary: numbers, texts"

noncomputable def binA (pc : PC) (op : BinOp) (t : Nat) (cst : Bool) (x y : AV) : Res AV :=
  match x with
  | .int k a => (match y with
    | .int l b => binInt pc op k (ikBeq k l) (nrm pc a) (nrm pc b)
    | _ => .fail "binary: a number")
  | .str n a => (match y with
    | .str m b => binStr pc op n m a b
    | _ => .fail "binary: a text")
  | x => binOther P pc op t cst x y

noncomputable def unA (pc : PC) (op : UnOp) (x : AV) : Res AV :=
  match op, x with
  | .not, .bool b => .ok (.bool (notB b))
  | .neg, .int k e => .ok (.int k (wrapE k (subE (.lit 0) (nrm pc e))))
  | .xor, .int k e => .ok (.int k (bitsE .xor k (.lit (if k.signed then -1 else k.max)) (nrm pc e)))
  | _, _ => .fail "unary"

/-- Cells with parts laid over them. -/
noncomputable def layA : List AV → Nat → List AV → List AV
  | [], _, _ => []
  | c :: cs, 0, [] => c :: cs
  | _ :: cs, 0, v :: vs => v :: layA cs 0 vs
  | c :: cs, o + 1, vs => c :: layA cs o vs

noncomputable def fillA (place : Nat → Option (Nat × Nat)) (cells : List AV) : List (Nat × AV) → Option (List AV)
  | [] => some cells
  | (i, v) :: rest =>
    match place i with
    | none => none
    | some (off, size) =>
      bif Nat.beq v.cells.length size && Nat.ble (off + v.cells.length) cells.length then fillA place (layA cells off v.cells) rest else none

noncomputable def partsA (ea : Operand → Res AV) : List (Nat × Operand) → Res (List (Nat × AV))
  | [] => .ok []
  | (i, x) :: r => (ea x).bind fun v => (partsA ea r).bind fun vs => .ok ((i, v) :: vs)

noncomputable def argsA (ea : Operand → Res AV) : List Operand → Res (List AV)
  | [] => .ok []
  | x :: r => (ea x).bind fun v => (argsA ea r).bind fun vs => .ok (v :: vs)

/-- Where a struct's fields lie, and of what size they are. -/
noncomputable def placesA : List (Nat × Nat × Bool) → Option (List (Nat × Nat))
  | [] => some []
  | (t, off, _) :: r =>
    match tinfo P t, placesA r with
    | some ti, some l => some ((off, ti.size) :: l)
    | _, _ => none

noncomputable def nth {α : Type} : List α → Nat → Option α
  | [], _ => none
  | x :: _, 0 => some x
  | _ :: r, n + 1 => nth r n

noncomputable def buildA (t : Nat) (parts : List (Nat × AV)) : Res AV :=
  (tdR P t).bind fun ti =>
    match ti.d with
    | .struct fs =>
      match placesA P fs with
      | none => .fail "build: a field's type"
      | some l => match fillA (nth l) ti.zero parts with
        | some cs => .ok (.agg cs)
        | none => .fail "build: a part"
    | .arr _ e => (tdR P e).bind fun te => match fillA (fun i => some (i * te.size, te.size)) ti.zero parts with
      | some cs => .ok (.agg cs)
      | none => .fail "build: a part"
    | _ => .fail "build: what type"

/-- n times these cells. -/
noncomputable def repA (z : List AV) : Nat → List AV
  | 0 => []
  | n + 1 => z ++ repA z n

noncomputable def convA (pc : PC) (s d : Nat) (x : AV) : Res AV :=
  (tdR P s).bind fun _ => (tdR P d).bind fun td =>
    match td.d, x with
    | .int k, .int _ e => .ok (.int k (wrapE k (nrm pc e)))
    | .str, .str n b => .ok (.str n b)
    | _, _ => .fail "convert"

/-- A bound of a slice expression. -/
noncomputable def bndA (pc : PC) (v : AV) (y : Nat) : Res Nat := (asI pc v).bind fun (_, e) => below pc e (y + 1)

noncomputable def optA (ea : Operand → Res AV) : Option Operand → Res (Option AV)
  | none => .ok none
  | some x => (ea x).bind fun v => .ok (some v)

/-- low, high, max of a slice expression over len and a capacity that is cap (ex), or no less. -/
noncomputable def boundsA (pc : PC) (len : Nat) (ex : Bool) (cap : Nat) (lo hi mx : Option AV) : Res (Nat × Nat × Bool × Nat) :=
  match mx with
  | some m => (bndA pc m cap).bind fun m =>
    match hi with
    | none => .fail "slice: max without high"
    | some h => (bndA pc h m).bind fun h =>
      match lo with
      | none => .ok (0, h, true, m)
      | some l => (bndA pc l h).bind fun l => .ok (l, h, true, m)
  | none =>
    match hi with
    | some h => (bndA pc h cap).bind fun h =>
      (match lo with
      | none => .ok (0, h, ex, cap)
      | some l => (bndA pc l h).bind fun l => .ok (l, h, ex, cap))
    | none =>
      match lo with
      | none => .ok (0, len, ex, cap)
      | some l => (bndA pc l len).bind fun l => .ok (l, len, ex, cap)

noncomputable def cutA (id off es : Nat) : Nat × Nat × Bool × Nat → AV
  | (l, h, ex, m) =>
    bif Nat.beq l 0 then .slc id off h ex m es
    else bif Nat.blt l m then .slc id (off + l * es) (h - l) ex (m - l) es
    else bif ex then .slc id off (h - l) true 0 es else .emp

noncomputable def sliceA (pc : PC) (t : Nat) (x : AV) (lo hi mx : Option AV) : Res AV :=
  (tdR P t).bind fun ti =>
    match ti.d, x with
    | .str, .str n bs =>
      (match mx with
      | some _ => .fail "slice: max of a text"
      | none => (boundsA pc n true n lo hi none).bind fun (l, h, _, _) => .ok (.str (h - l) ((bs.drop l).take (h - l))))
    | .slc e, .slc id off len ex cap es => (tdR P e).bind fun te =>
      bif Nat.beq te.size es then (boundsA pc len ex cap lo hi mx).bind fun b => .ok (cutA id off es b) else .fail "slice: an element's size"
    | .slc e, .nils => (tdR P e).bind fun _ => (boundsA pc 0 true 0 lo hi mx).bind fun _ => .ok .nils
    | .slc e, .emp => (tdR P e).bind fun _ => (boundsA pc 0 false 0 lo hi mx).bind fun _ => .ok .emp
    | .slc e, .slv id off n _ es => (tdR P e).bind fun te =>
      bif Nat.beq te.size es then (match hi with
        | some h => (boundsA pc n false n lo (some h) mx).bind fun b => .ok (cutA id off es b)
        | none => .fail "slice: a length that is not told") else .fail "slice: an element's size"
    | _, _ => .fail "slice: of what"

noncomputable def lenA (t : Nat) (x : AV) : Res AV :=
  (tdR P t).bind fun ti =>
    match ti.d, x with
    | .str, .str n _ => .ok (.int .i64 (.lit (.ofNat n)))
    | .arr n _, _ => .ok (.int .i64 (.lit (.ofNat n)))
    | .ptr a, _ => (tdR P a).bind fun ta => match ta.d with
      | .arr n _ => .ok (.int .i64 (.lit (.ofNat n)))
      | _ => .fail "len: of what"
    | .slc _, .slc _ _ n _ _ _ => .ok (.int .i64 (.lit (.ofNat n)))
    | .slc _, .nils => .ok (.int .i64 (.lit 0))
    | .slc _, .emp => .ok (.int .i64 (.lit 0))
    | .slc _, .slv _ _ _ l _ => .ok (.int .i64 l)
    | .map _ _, .nilm => .ok (.int .i64 (.lit 0))
    | _, _ => .fail "len: of what"

noncomputable def capA (t : Nat) (x : AV) : Res AV :=
  (tdR P t).bind fun ti =>
    match ti.d, x with
    | .slc _, .slc _ _ _ true c _ => .ok (.int .i64 (.lit (.ofNat c)))
    | .slc _, .nils => .ok (.int .i64 (.lit 0))
    | _, _ => .fail "cap: of what"

noncomputable def maxA (mx : Bool) (pc : PC) : AV → List AV → Res AV
  | x, [] => .ok x
  | .int k a, .int l b :: r =>
    bif ikBeq k l then
      let a := nrm pc a
      let b := nrm pc b
      (decR pc (bif mx then ltE a b else ltE b a)).bind fun t => maxA mx pc (.int k (bif t then b else a)) r
    else .fail "max: kinds"
  | _, _ => .fail "max: of what"

/-- Neither of a slice nor to one. -/
noncomputable def plainConv (s d : Nat) : Bool :=
  match tinfo P s, tinfo P d with
  | some a, some b => (match a.d, b.d with
    | .slc _, _ => false
    | _, .slc _ => false
    | _, _ => true)
  | _, _ => true

noncomputable def aPick (pc : PC) (ea : Operand → Res AV) (c a b : Operand) : Res AV :=
  (ea c).bind fun c => match c with
    | .bool s => (decR pc s).bind fun t => bif t then ea a else ea b
    | _ => .fail "pick"

noncomputable def aNilCheck : AV → Res AV
  | .ptr id off => .ok (.ptr id off)
  | .func (.func f) a b => .ok (.func (.func f) a b)
  | .func (.yield l) a b => .ok (.func (.yield l) a b)
  | .iface t v => .ok (.iface t v)
  | _ => .fail "nilCheck"

noncomputable def aIface (t : Nat) (v : AV) : Res AV :=
  (tdR P t).bind fun ti => match ti.d with
    | .iface => .fail "makeInterface"
    | _ => .ok (.iface t v)

noncomputable def aFunc (ea : Operand → Res AV) (fn : Fn) (first captured : Array Operand) : Res AV :=
  match fn with
  | .func f => (argsA ea first.toList).bind fun a => (argsA ea captured.toList).bind fun b => .ok (.func (.func f) a b)
  | _ => .fail "makeFunc"

/-- A field's type and place. -/
noncomputable def fieldR (s f : Nat) : Res (TI × Nat) :=
  (tdR P s).bind fun ti => match ti.d with
    | .struct fs => (match nth fs f with
      | some (t, o, _) => (tdR P t).bind fun tf => .ok (tf, o)
      | none => .fail "no such field")
    | _ => .fail "a field of what"

noncomputable def aFieldAddr (s f : Nat) : AV → Res AV
  | .ptr id off => (fieldR P s f).bind fun (tf, o) => bif Nat.ble 1 tf.size then .ok (.ptr id (off + o)) else .fail "a field of no cells"
  | _ => .fail "fieldAddr"

noncomputable def aField (s f : Nat) : AV → Res AV
  | .agg cs => (fieldR P s f).bind fun (tf, o) => .ofO "field: a part" (partA tf o cs)
  | _ => .fail "field"

noncomputable def aIndexAddr (pc : PC) (t : Nat) (e : SE) (v : AV) : Res AV :=
  (tdR P t).bind fun ti => match ti.d, v with
    | .arr n el, .ptr id off => (tdR P el).bind fun te => (below pc e n).bind fun j => .ok (.ptr id (off + j * te.size))
    | .slc el, .slc id off len _ _ es => (tdR P el).bind fun te => bif Nat.beq te.size es then (below pc e len).bind fun j => .ok (.ptr id (off + j * es)) else .fail "indexAddr: size"
    | .slc el, .slv id off n _ es => (tdR P el).bind fun te => bif Nat.beq te.size es then (below pc e n).bind fun j => .ok (.ptr id (off + j * es)) else .fail "indexAddr: size"
    | _, _ => .fail "indexAddr"

noncomputable def aIndex (pc : PC) (t : Nat) (e : SE) (v : AV) : Res AV :=
  (tdR P t).bind fun ti => match ti.d, v with
    | .arr n el, .agg cs => (tdR P el).bind fun te => (below pc e n).bind fun j => .ofO "index: a part" (partA te (j * te.size) cs)
    | .str, .str n bs => (below pc e n).bind fun j => (match nth bs j with
      | some b => bif inByte pc b then .ok (.int .u8 b) else .fail "index: a byte"
      | none => .fail "index: no byte")
    | _, _ => .fail "index"

noncomputable def aExtract (i : Nat) : AV → Res AV
  | .tup vs => .ofO "extract" (nth vs i)
  | _ => .fail "extract"

noncomputable def aLen (pc : PC) (b : Builtin) (ts : List Nat) (vs : List AV) : Res AV :=
  match b, vs, ts with
  | .len, v :: _, t :: _ => lenA P t v
  | .cap, v :: _, t :: _ => capA P t v
  | .max, v :: r, _ => maxA true pc v r
  | .min, v :: r, _ => maxA false pc v r
  | _, _, _ => .fail "len, cap, max, min"

noncomputable def aBuildSlice (t n : Nat) (ps : List (Nat × AV)) : Res (Blk × (Nat → AV)) :=
  (tdR P t).bind fun ti => match ti.d with
    | .slc e => (tdR P e).bind fun te =>
      bif Nat.ble (n * te.size) 16777216 && (Nat.ble 1 te.size && Nat.beq te.zero.length te.size) then
        match fillA (fun i => some (i * te.size, te.size)) (repA te.zero n) ps with
        | some cs => .ok (blkOf false e cs, fun id => .slc id 0 n true n te.size)
        | none => .fail "buildSlice: a part"
      else .fail "buildSlice: size"
    | _ => .fail "buildSlice"

noncomputable def aMakeSlice (t : Nat) (l c : IntKind × SE) : Res (Blk × (Nat → AV)) :=
  (tdR P t).bind fun ti => match ti.d, l, c with
    | .slc e, (.i64, .lit (.ofNat l)), (.i64, .lit (.ofNat c)) => (tdR P e).bind fun te =>
      bif Nat.ble l c && (Nat.ble (c * te.bytes) 140737488355328 && (Nat.ble c 140737488355328 && (Nat.ble 1 te.size && Nat.beq te.zero.length te.size))) then .ok (blkOf false e (repA te.zero c), fun id => .slc id 0 l true c te.size) else .fail "makeSlice: size"
    | _, _, _ => .fail "makeSlice"

noncomputable def aLoad (h : H) (t : Nat) : AV → Res AV
  | .ptr id off => (tdR P t).bind fun ti => bif ti.d.agg then (rd h id off ti.size).bind fun cs => .ok (.agg cs)
      else (rd h id off 1).bind fun cs => (match cs with
        | [v] => .ok v
        | _ => .fail "load")
  | _ => .fail "load"

noncomputable def bytesOfCells : List AV → Option (List SE)
  | [] => some []
  | .int .u8 e :: r => match bytesOfCells r with
    | some l => some (e :: l)
    | none => none
  | _ :: _ => none

/-- The cells of the first n elements. -/
noncomputable def firstA (pc : PC) (h : H) (size n : Nat) : AV → Res (List AV)
  | .slc id off _ _ _ _ => rd h id off (n * size)
  | .nils => .ok []
  | .emp => .ok []
  | .str _ bs => bif (bs.take n).all (inByte pc) && Nat.beq size 1 then .ok ((bs.take n).map fun e => .int .u8 e) else .fail "firstA: a byte"
  | _ => .fail "firstA"

noncomputable def lenOfA : AV → Res Nat
  | .slc _ _ n _ _ _ => .ok n
  | .nils => .ok 0
  | .emp => .ok 0
  | .str n _ => .ok n
  | _ => .fail "lenOfA"

noncomputable def appendA (pc : PC) (h : H) (e : Nat) (te : TI) (s x : AV) : Res (AV × H) :=
  (lenOfA x).bind fun n => (firstA pc h te.size n x).bind fun new =>
    match s with
    | .nils =>
      bif Nat.beq n 0 then .ok (.nils, h)
      else bif Nat.ble (n * te.bytes) 140737488355328 && Nat.ble n 140737488355328 then .ok (.slc h.next 0 n false n te.size, h.new (blkOf true e new)) else .fail "append: size"
    | .slc id off len ex cap es =>
      bif Nat.beq es te.size then
        bif Nat.ble (len + n) cap then
          (bif Nat.beq n 0 then .ok (.slc id off len ex cap es, h)
          else (wr h id (off + len * es) new).bind fun h' => .ok (.slc id off (len + n) ex cap es, h'))
        else bif Nat.ble ((len + n) * te.bytes) 140737488355328 && Nat.ble (len + n) 140737488355328 then
          (bif ex then
            (rd h id off (len * es)).bind fun old => .ok (.slc h.next 0 (len + n) false (len + n) es, h.new (blkOf true e (old ++ new)))
          else bif Nat.beq n 0 then .ok (.slc id off len ex cap es, h)
          else
            match h.get id with
            | some (.cells true true ety m vals) =>
              bif Nat.beq off 0 && Nat.ble (len * es) m && Nat.beq ety e && new.all AV.one then
                .ok (.slc h.next 0 (len + n) false (len + n) es, (h.del id).new (.cells true true e (len * es + new.length) (vals.puts (len * es) new)))
              else .fail "append: where it lies"
            | _ => .fail "append: no block of one's own")
        else .fail "append: size"
      else .fail "append: an element's size"
    | _ => .fail "append: to what"

noncomputable def isIntD : TD → Bool
  | .int _ => true
  | _ => false

/-- A whole number that is told, as a map's key. -/
noncomputable def keyA (pc : PC) : AV → Res (IntKind × Int)
  | .int k e => (match nrm pc e with
    | .lit n => .ok (k, n)
    | _ => .fail "map: a key that is not told")
  | _ => .fail "map: a key"

noncomputable def mFind (kd : IntKind) (n : Int) : List (AV × AV) → Nat → Res (Option (Nat × AV))
  | [], _ => .ok none
  | (.int k (.lit m), v) :: r, i => bif ikBeq kd k then (bif intBeq n m then .ok (some (i, v)) else mFind kd n r (i + 1)) else .fail "map: kinds"
  | _ :: _, _ => .fail "map: a key"

noncomputable def mapEs (h : H) : AV → Res (List (AV × AV))
  | .nilm => .ok []
  | .map id => (match h.get id with
    | some (.map es) => .ok es
    | _ => .fail "lookup: no map")
  | _ => .fail "lookup"

noncomputable def zeroA (P : Program) (t : Nat) : Res AV :=
  match P.info? t with
  | some i => (match i.zero with
    | some z => .ofO "a type's zero" (ofValue z)
    | none => .fail "a type's zero")
  | none => .fail "a type"

noncomputable def pairA (ok : Bool) (z : AV) : Option (Nat × AV) → AV
  | some (_, v) => bif ok then .tup [v, .bool (.lit true)] else v
  | none => bif ok then .tup [z, .bool (.lit false)] else z

noncomputable def aStore (h : H) (t : Nat) (v : AV) : AV → Res (Option AV × H)
  | .ptr id off => (tdR P t).bind fun ti => bif Nat.beq v.cells.length ti.size then (wr h id off v.cells).bind fun h' => .ok (none, h') else .fail "store: size"
  | _ => .fail "store"

noncomputable def aToStr (h : H) : AV → Res (Option AV × H)
  | .nils => .ok (some (.str 0 []), h)
  | .emp => .ok (some (.str 0 []), h)
  | .slc id off len _ _ _ => (rd h id off len).bind fun cs => (match bytesOfCells cs with
    | some l => .ok (some (.str len l), h)
    | none => .fail "convert: bytes")
  | _ => .fail "convert: a slice"

/-- A text's bytes: a row that is not to be written. -/
noncomputable def aToBytes (pc : PC) (h : H) (e : Nat) : AV → Res (Option AV × H)
  | .str n bs => bif bs.all (inByte pc) then .ok (some (.slc h.next 0 n false n 1), h.new (.cells false true e n (T.puts .nil 0 (bs.map fun b => .int .u8 b)))) else .fail "convert: a byte"
  | _ => .fail "convert: a text"

noncomputable def isU8 : TD → Bool
  | .int .u8 => true
  | _ => false

noncomputable def aConv (pc : PC) (h : H) (s d : Nat) (v : AV) : Res (Option AV × H) :=
  (tdR P s).bind fun ts => (tdR P d).bind fun td => match ts.d, td.d with
    | .slc e, .str => (tdR P e).bind fun te => bif isU8 te.d then aToStr h v else .fail "convert: a slice"
    | .str, .slc e => (tdR P e).bind fun te => bif isU8 te.d then aToBytes pc h e v else .fail "convert: to a slice"
    | _, _ => .fail "convert"

noncomputable def aLookup (pc : PC) (h : H) (t : Nat) (ok : Bool) (m k : AV) : Res (Option AV × H) :=
  (tdR P t).bind fun ti => match ti.d with
    | .map kt e => (tdR P kt).bind fun tk => bif isIntD tk.d then
        ((keyA pc k).bind fun kn => (mapEs h m).bind fun es => (zeroA P e).bind fun z => (mFind kn.1 kn.2 es 0).bind fun r => .ok (some (pairA ok z r), h))
      else .fail "lookup: a key"
    | _ => .fail "lookup: a type"

noncomputable def aMapUpdate (pc : PC) (h : H) (t : Nat) (m k v : AV) : Res (Option AV × H) :=
  (tdR P t).bind fun ti => match ti.d with
    | .map kt _ => (tdR P kt).bind fun tk => bif isIntD tk.d then
        ((keyA pc k).bind fun kn => match m with
        | .map id => (match h.get id with
          | some (.map es) => (mFind kn.1 kn.2 es 0).bind fun r => (match r with
            | none => .ok (none, h.set id (.map (es ++ [(.int kn.1 (.lit kn.2), v)])))
            | some _ => .fail "mapUpdate: a key that is there")
          | _ => .fail "mapUpdate: no map")
        | _ => .fail "mapUpdate: no map")
      else .fail "mapUpdate: a key"
    | _ => .fail "mapUpdate: a type"

noncomputable def aMakeMap (h : H) : Option Operand → Res (Option AV × H)
  | none => .ok (some (.map h.next), h.new (.map []))
  | some _ => .fail "makeMap: a size"

noncomputable def aRange (h : H) (t : Nat) (v : AV) : Res (Option AV × H) :=
  (tdR P t).bind fun ti => match ti.d, v with
    | .str, .str n bs => .ok (some (.ptr h.next 0), h.new (.siter n bs 0))
    | _, _ => .fail "range"

noncomputable def aNext (h : H) : AV → Res (Option AV × H)
  | .ptr id 0 => (match h.get id with
      | some (.siter n bs pos) =>
        bif Nat.blt pos n then
          (match nth bs pos with
          | some (.lit (.ofNat b)) => bif Nat.blt b 128 then .ok (some (.tup [.bool (.lit true), .int .i64 (.lit (.ofNat pos)), .int .i32 (.lit (.ofNat b))]), h.set id (.siter n bs (pos + 1))) else .fail "next: beyond ASCII"
          | _ => .fail "next: a byte that is not told")
        else .ok (some (.tup [.bool (.lit false)]), h)
      | _ => .fail "next: no iterator")
  | _ => .fail "next"

/-- Of slices and texts. -/
noncomputable def TD.seq : TD → Bool
  | .slc _ | .str => true
  | _ => false

/-- So many zeros behind a slice that is nil. -/
noncomputable def zerosA (pc : PC) (h : H) (e : Nat) (te : TI) (s x : AV) : Res (Option AV × H) :=
  match s with
  | .nils => (keyA pc x).bind fun kn => (match kn.2 with
    | .ofNat n => bif Nat.ble 1 n && (Nat.ble (n * te.bytes) 140737488355328 && (Nat.ble n 140737488355328 && (Nat.ble 1 te.size && Nat.beq te.zero.length te.size)))
        then .ok (some (.slc h.next 0 n false n te.size), h.new (blkOf true e (repA te.zero n))) else .fail "append: zeros, size"
    | _ => .fail "append: zeros, how many")
  | _ => .fail "append: zeros to what"

noncomputable def aAppend (pc : PC) (h : H) (ts : List Nat) (vs : List AV) : Res (Option AV × H) :=
  match vs, ts with
  | [s, x], t :: tx :: _ => (tdR P t).bind fun ti => (tdR P tx).bind fun tix => (match ti.d with
    | .slc e => (tdR P e).bind fun te => bif isIntD tix.d then zerosA pc h e te s x
      else bif Nat.ble 1 te.size && (Nat.beq te.zero.length te.size && tix.d.seq) then (appendA pc h e te s x).bind fun (v, h') => .ok (some v, h') else .fail "append: an element of no cells"
    | _ => .fail "append: a type")
  | _, _ => .fail "append"

noncomputable def copyA (pc : PC) (h : H) (size n : Nat) (x : AV) : AV → Res (Option AV × H)
  | .nils => .ok (some (.int .i64 (.lit 0)), h)
  | .emp => .ok (some (.int .i64 (.lit 0)), h)
  | .slc id off len _ _ es => bif Nat.beq es size then
      (let m := bif Nat.ble n len then n else len
      (firstA pc h size m x).bind fun new => bif Nat.beq m 0 then .ok (some (.int .i64 (.lit 0)), h) else (wr h id off new).bind fun h' => .ok (some (.int .i64 (.lit (.ofNat m))), h'))
      else .fail "copy: size"
  | _ => .fail "copy: to what"

noncomputable def aCopy (pc : PC) (h : H) (ts : List Nat) (vs : List AV) : Res (Option AV × H) :=
  match vs, ts with
  | [d, x], t :: _ => (tdR P t).bind fun ti => (match ti.d with
    | .slc e => (tdR P e).bind fun te => (lenOfA x).bind fun n => copyA pc h te.size n x d
    | _ => .fail "copy: a type")
  | _, _ => .fail "copy"

/-- What an operation is: it leaves the heap alone; it looks at it; it makes one block (and looks at nothing); any other; a call. -/
inductive Cls where
  | pure (v : Res AV)
  | load (f : H → Res AV)
  | alloc (x : Res (Blk × (Nat → AV)))
  | heap (f : H → Res (Option AV × H))
  | call (c : Call)
  | no

noncomputable def clsB (pc : PC) (ea : Operand → Res AV) (c : Call) (b : Builtin) : Cls :=
  match b with
  | .len | .cap | .max | .min => .pure ((argsA ea c.args.toList).bind fun vs => aLen P pc b c.argTypes.toList vs)
  | .append => .heap fun h => (argsA ea c.args.toList).bind fun vs => aAppend P pc h c.argTypes.toList vs
  | .copy => .heap fun h => (argsA ea c.args.toList).bind fun vs => aCopy P pc h c.argTypes.toList vs
  | _ => .no

noncomputable def clsCall (pc : PC) (ea : Operand → Res AV) (c : Call) : Cls :=
  match c.callee with
  | .builtin b => clsB P pc ea c b
  | _ => .call c

noncomputable def clsConv (pc : PC) (ea : Operand → Res AV) (s d : Nat) (x : Operand) : Cls :=
  bif plainConv P s d then .pure ((ea x).bind fun v => convA P pc s d v) else .heap fun h => (ea x).bind fun v => aConv P pc h s d v

end
section
abbrev ClsF : Type := Program → PC → (Operand → Res AV) → Cls
noncomputable def kMove (x : Operand) : ClsF := fun _ _ ea => .pure (ea x)
noncomputable def kAssign (x : Operand) : ClsF := fun _ _ ea => .pure (ea x)
noncomputable def kPick (c : Operand) (a : Operand) (b : Operand) : ClsF := fun _ pc ea => .pure (aPick pc ea c a b)
noncomputable def kAlloc (e : TypeId) : ClsF := fun P _ _ => .alloc ((tdR P e).bind fun ti => .ok (blkOf false e ti.zero, fun id => .ptr id 0))
noncomputable def kBox (e : TypeId) (x : Operand) : ClsF := fun _ _ ea => .alloc ((ea x).bind fun v => .ok (blkOf false e v.cells, fun id => .ptr id 0))
noncomputable def kBuild (t : TypeId) (parts : Array (Nat × Operand)) : ClsF := fun P _ ea => .pure ((partsA ea parts.toList).bind (buildA P t))
noncomputable def kBuildSlice (t : TypeId) (n : Nat) (parts : Array (Nat × Operand)) : ClsF := fun P _ ea => .alloc ((partsA ea parts.toList).bind (aBuildSlice P t n))
noncomputable def kInsert (t : TypeId) (m : Operand) (k : Operand) (v : Operand) : ClsF := fun P pc ea => .heap fun h => (ea m).bind fun m => (ea k).bind fun k => (ea v).bind fun v => aMapUpdate P pc h t m k v
noncomputable def kLoad (t : TypeId) (a : Operand) : ClsF := fun P _ ea => .load fun h => (ea a).bind (aLoad P h t)
noncomputable def kStore (t : TypeId) (a : Operand) (x : Operand) : ClsF := fun P _ ea => .heap fun h => (ea a).bind fun p => (ea x).bind fun v => aStore P h t v p
noncomputable def kNilCheck (x : Operand) : ClsF := fun _ _ ea => .pure ((ea x).bind aNilCheck)
noncomputable def kBinOp (o : BinOp) (t : TypeId) (x : Operand) (y : Operand) (_ : TypeId) : ClsF := fun P pc ea => .pure ((ea x).bind fun a => (ea y).bind fun b => binA P pc o t (isConstA x || isConstA y) a b)
noncomputable def kUnOp (o : UnOp) (_ : TypeId) (x : Operand) : ClsF := fun _ pc ea => .pure ((ea x).bind (unA pc o))
noncomputable def kConvert (s : TypeId) (d : TypeId) (x : Operand) : ClsF := fun P pc ea => clsConv P pc ea s d x
noncomputable def kMakeInterface (t : TypeId) (x : Operand) : ClsF := fun P _ ea => .pure ((ea x).bind (aIface P t))
noncomputable def kMakeFunc (fn : Fn) (first : Array Operand) (captured : Array Operand) : ClsF := fun _ _ ea => .pure (aFunc ea fn first captured)
noncomputable def kMakeMap (_ : TypeId) (r : Option Operand) : ClsF := fun _ _ _ => .heap fun h => aMakeMap h r
noncomputable def kMakeSlice (t : TypeId) (l : Operand) (c : Operand) : ClsF := fun P pc ea => .alloc ((ea l).bind fun l => (ea c).bind fun c => (asI pc l).bind fun l => (asI pc c).bind fun c => aMakeSlice P t l c)
noncomputable def kSlice (t : TypeId) (x : Operand) (lo : Option Operand) (hi : Option Operand) (mx : Option Operand) : ClsF := fun P pc ea => .pure ((ea x).bind fun v => (optA ea lo).bind fun lo => (optA ea hi).bind fun hi => (optA ea mx).bind fun mx => sliceA P pc t v lo hi mx)
noncomputable def kFieldAddr (s : TypeId) (x : Operand) (f : Nat) : ClsF := fun P _ ea => .pure ((ea x).bind (aFieldAddr P s f))
noncomputable def kField (s : TypeId) (x : Operand) (f : Nat) : ClsF := fun P _ ea => .pure ((ea x).bind (aField P s f))
noncomputable def kIndexAddr (t : TypeId) (x : Operand) (i : Operand) : ClsF := fun P pc ea => .pure ((ea x).bind fun v => (ea i).bind fun iv => (asI pc iv).bind fun e => aIndexAddr P pc t e.2 v)
noncomputable def kIndex (t : TypeId) (x : Operand) (i : Operand) : ClsF := fun P pc ea => .pure ((ea x).bind fun v => (ea i).bind fun iv => (asI pc iv).bind fun e => aIndex P pc t e.2 v)
noncomputable def kLookup (t : TypeId) (m : Operand) (k : Operand) (ok : Bool) : ClsF := fun P pc ea => .heap fun h => (ea m).bind fun m => (ea k).bind fun k => aLookup P pc h t ok m k
noncomputable def kMapUpdate (t : TypeId) (m : Operand) (k : Operand) (v : Operand) : ClsF := fun P pc ea => .heap fun h => (ea m).bind fun m => (ea k).bind fun k => (ea v).bind fun v => aMapUpdate P pc h t m k v
noncomputable def kRange (t : TypeId) (x : Operand) : ClsF := fun P _ ea => .heap fun h => (ea x).bind (aRange P h t)
noncomputable def kNext (it : Operand) (str : Bool) : ClsF := fun _ _ ea => Bool.rec (motive := fun _ => Cls) .no (.heap fun h => (ea it).bind (aNext h)) str
noncomputable def kExtract (x : Operand) (i : Nat) : ClsF := fun _ _ ea => .pure ((ea x).bind (aExtract i))
noncomputable def kCall (c : Call) : ClsF := fun P pc ea => clsCall P pc ea c

end
section
variable (P : Program)
noncomputable def cls (pc : PC) (ea : Operand → Res AV) (op : Op) : Cls :=
  Op.rec (motive := fun _ => ClsF) kMove kAssign kPick kAlloc kBox kBuild kBuildSlice kInsert kLoad kStore (fun _ _ _ _ => .no) (fun _ _ _ _ => .no) kNilCheck kBinOp kUnOp kConvert (fun _ _ _ _ _ => .no) kMakeInterface kMakeFunc kMakeMap (fun _ _ _ _ _ => .no) kMakeSlice kSlice kFieldAddr kField kIndexAddr kIndex kLookup kMapUpdate (fun _ _ _ _ _ _ => .no) (fun _ _ _ _ _ _ _ => .no) kRange kNext (fun _ _ _ _ => .no) (fun _ _ _ _ _ _ _ => .no) kExtract kCall (fun _ _ _ _ => .no) (fun _ _ _ _ => .no) (fun _ _ _ _ => .no) (fun _ _ _ _ _ => .no) (fun _ _ _ _ _ _ => .no) (fun _ _ _ _ _ => .no) op P pc ea

/-! ### Frames, statements, calls -/
structure Fr where
  fn : Nat
  nt : Nat
  mask : Nat
  round : Option Nat

structure St where
  tm : T AV
  h : H
  marks : List Nat

inductive Ex where
  | normal
  | exit (id : Nat)
  | goto (l : Nat)
  | ret

structure Rec where
  code : Fr → Code → St → Res (Ex × St)
  loop : Fr → Code → St → Res (Ex × St)
  fn : Nat → List AV → H → Res (AV × H)

/-- What functions are taken by a summary, and what functions have no body. -/
structure Hooks where
  sum : Nat → Option (PC → List AV → H → Res (AV × H))
  ext : Nat → Option (PC → List AV → Res AV)
  mth : Nat → String → Option Nat

variable (X : Hooks) (pc : PC)

noncomputable def callF (r : Rec) (f : Nat) (args : List AV) (h : H) : Res (AV × H) :=
  match X.sum f with
  | some g => g pc args h
  | none =>
    match X.ext f with
    | some g => (g pc args).bind fun v => .ok (v, h)
    | none => r.fn f args h

noncomputable def setsA (tm : T AV) (nt mask : Nat) : List Nat → List AV → Res (T AV)
  | [], [] => .ok tm
  | t :: ts, v :: vs => bif Nat.blt t nt then setsA (bif bit mask t then tm.put t v else tm) nt mask ts vs else .fail "yield: a temporary"
  | _, _ => .fail "yield: arguments"

noncomputable def Ex.code? : Ex → Option Code
  | .normal => none
  | .exit id => some (.exit id)
  | .goto l => some (.goto l)
  | .ret => some .ret

/-- One round of a range over a function. -/
noncomputable def yieldA (r : Rec) (l : Nat) (args : List AV) (h : H) : Res (AV × H) :=
  match h.get l with
  | some (.loop fn nt mask tm ps assign body .ready _ _) =>
    (setsA tm nt mask ps args).bind fun tm =>
      let fr : Fr := { fn, nt, mask, round := some l }
      (r.code fr assign { tm, h, marks := [] }).bind fun (e, st) =>
        match e with
        | .normal =>
          (match st.h.get l with
          | some (.loop fn nt mask tm0 ps assign body0 .ready pend dfr) =>
            (r.code fr body { st with h := st.h.set l (.loop fn nt mask tm0 ps assign body0 .busy pend dfr) }).bind fun (e, st) =>
              (match st.h.get l with
              | some (.loop fn nt mask tm0 ps assign body _ _ dfr) =>
                let (s, b) := match e with
                  | .normal => (LoopState.ready, true)
                  | _ => (LoopState.done, false)
                .ok (.bool (.lit b), st.h.set l (.loop fn nt mask tm0 ps assign body s e.code? dfr))
              | _ => .fail "yield: no such loop")
          | _ => .fail "yield: the loop is not ready")
        | _ => .fail "yield: an assignment"
  | _ => .fail "yield: the loop is not ready"

noncomputable def callV (r : Rec) (fv : AV) (args : List AV) (h : H) : Res (AV × H) :=
  match fv with
  | .func (.func f) a b => callF X pc r f (a ++ args ++ b) h
  | .func (.yield l) a _ => yieldA r l (a ++ args) h
  | _ => .fail "a call of what"

noncomputable def invokeA (r : Rec) (recv : AV) (name : String) (args : List AV) (h : H) : Res (AV × H) :=
  match recv with
  | .iface t v => match X.mth t name with
    | some f => callF X pc r f (v :: args) h
    | none => .fail "a method"
  | _ => .fail "a method of what"

noncomputable def callO (r : Rec) (ea : Operand → Res AV) (c : Call) (h : H) : Res (AV × H) :=
  (argsA ea c.args.toList).bind fun vs =>
    match c.callee with
    | .value f => (ea f).bind fun fv => callV X pc r fv vs h
    | .invoke x name => (ea x).bind fun recv => invokeA X pc r recv name vs h
    | .builtin _ => .fail "a builtin"

noncomputable def oPure (v : Res AV) (_ : Hooks) (_ : PC) (_ : Rec) (_ : Operand → Res AV) (h : H) : Res (Option AV × H) := v.bind fun v => .ok (some v, h)
noncomputable def oLoad (f : H → Res AV) (_ : Hooks) (_ : PC) (_ : Rec) (_ : Operand → Res AV) (h : H) : Res (Option AV × H) := (f h).bind fun v => .ok (some v, h)
noncomputable def oAlloc (x : Res (Blk × (Nat → AV))) (_ : Hooks) (_ : PC) (_ : Rec) (_ : Operand → Res AV) (h : H) : Res (Option AV × H) := x.bind fun x => .ok (some (x.2 h.next), h.new x.1)
noncomputable def oHeap (f : H → Res (Option AV × H)) (_ : Hooks) (_ : PC) (_ : Rec) (_ : Operand → Res AV) (h : H) : Res (Option AV × H) := f h
noncomputable def oCall (c : Call) (X : Hooks) (pc : PC) (r : Rec) (ea : Operand → Res AV) (h : H) : Res (Option AV × H) := (callO X pc r ea c h).bind fun x => .ok (some x.1, x.2)
noncomputable def oNo (_ : Hooks) (_ : PC) (_ : Rec) (_ : Operand → Res AV) (_ : H) : Res (Option AV × H) := .fail "an operation that is not covered"

noncomputable def opC (r : Rec) (ea : Operand → Res AV) (h : H) (c : Cls) : Res (Option AV × H) :=
  Cls.rec (motive := fun _ => Hooks → PC → Rec → (Operand → Res AV) → H → Res (Option AV × H)) oPure oLoad oAlloc oHeap oCall oNo c X pc r ea h

/-- Any operation: a value (none: nothing is told), and the heap. -/
noncomputable def opA (r : Rec) (ea : Operand → Res AV) (h : H) (op : Op) : Res (Option AV × H) := opC X pc r ea h (cls P pc ea op)

noncomputable def pTree (tm : Tm) (d : Nat) (v : Option AV) : Tm := ⟨tm.mask, T.set v tm.tree d, tm.loc⟩
noncomputable def pLoc (tm : Tm) (d : Nat) (v : Option AV) : Tm := ⟨tm.mask, tm.tree, (d, v) :: tm.loc⟩
noncomputable def Tm.put (tm : Tm) (d : Nat) (v : Option AV) : Tm := Bool.rec (pLoc tm d v) (pTree tm d v) (bit tm.mask d)

noncomputable def pDst (d : Nat) (nt : Nat) (tm : Tm) (v : Option AV) : Res Tm := Bool.rec (.fail "a temporary beyond the frame's") (.ok (tm.put d v)) (Nat.blt d nt)
noncomputable def pNone (_ : Nat) (tm : Tm) (_ : Option AV) : Res Tm := .ok tm
noncomputable def putA (nt : Nat) (tm : Tm) (dst : Option Nat) (v : Option AV) : Res Tm := Option.rec (motive := fun _ => Nat → Tm → Option AV → Res Tm) pNone pDst dst nt tm v

/-- Is it to be done? -/
noncomputable def wGuard (g : Nat × Bool) (pc : PC) (ops : List Oper) (tm : Tm) : Res Bool :=
  match nth ops g.1 with
  | none => .fail "guard"
  | some o =>
    match o.dst with
    | none => .fail "guard"
    | some d =>
      match tm.get d with
      | some (.bool b) => (decR pc b).bind fun t => .ok (t == g.2)
      | some (.tup []) => .ok false     -- it was not done itself
      | _ => .fail "guard: what it hangs on is not known"
noncomputable def wNone (_ : PC) (_ : List Oper) (_ : Tm) : Res Bool := .ok true
noncomputable def wantA (ops : List Oper) (tm : Tm) (o : Oper) : Res Bool := Option.rec (motive := fun _ => PC → List Oper → Tm → Res Bool) wNone wGuard o.guard pc ops tm

noncomputable def stepDo (r : Rec) (fr : Fr) (o : Oper) (tm : Tm) (h : H) : Res (Tm × H) :=
  (opA P X pc r (evalA tm) h o.op).bind fun x => (putA fr.nt tm o.dst x.1).bind fun tm => .ok (tm, x.2)
noncomputable def stepSkip (fr : Fr) (o : Oper) (tm : Tm) (h : H) : Res (Tm × H) :=
  (putA fr.nt tm o.dst (some (.tup []))).bind fun tm => .ok (tm, h)
noncomputable def stepO (r : Rec) (fr : Fr) (ops : List Oper) (o : Oper) (tm : Tm) (h : H) : Res (Tm × H) :=
  (wantA pc ops tm o).bind fun w => Bool.rec (motive := fun _ => Res (Tm × H)) (stepSkip fr o tm h) (stepDo P X pc r fr o tm h) w

noncomputable def opsA (r : Rec) (fr : Fr) (ops l : List Oper) (tm : Tm) (h : H) : Res (Tm × H) :=
  List.rec (motive := fun _ => Tm → H → Res (Tm × H)) (fun tm h => .ok (tm, h)) (fun o _ ih tm h => (stepO P X pc r fr ops o tm h).bind fun x => ih x.1 x.2) l tm h

end
end Go.Ev
