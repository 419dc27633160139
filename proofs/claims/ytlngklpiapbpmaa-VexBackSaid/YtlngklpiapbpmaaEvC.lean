/- The evaluator: regions whose order is open, statements, functions; no theorem of the program yet; no conditions. -/
import Derived.Test.YtlngklpiapbpmaaEvB
set_option linter.unusedSimpArgs false
set_option linter.unusedVariables false
namespace Go.Ev

noncomputable def sesBeq : List SE → List SE → Bool
  | [], [] => true
  | a :: as, b :: bs => a.beq b && sesBeq as bs
  | _, _ => false

mutual
noncomputable def AV.beq : AV → AV → Bool
  | .int k a, .int l b => ikBeq k l && a.beq b
  | .bool a, .bool b => a.beq b
  | .str n a, .str m b => Nat.beq n m && sesBeq a b
  | .nilp, .nilp | .nils, .nils | .emp, .emp | .nilm, .nilm | .nilf, .nilf | .nili, .nili => true
  | .ptr a b, .ptr c d => Nat.beq a c && Nat.beq b d
  | .slc a b c d e f, .slc a' b' c' d' e' f' => Nat.beq a a' && Nat.beq b b' && Nat.beq c c' && (d == d') && Nat.beq e e' && Nat.beq f f'
  | .map a, .map b => Nat.beq a b
  | .func (.func f) a b, .func (.func g) c d => Nat.beq f g && avsBeq a c && avsBeq b d
  | .func (.yield f) a b, .func (.yield g) c d => Nat.beq f g && avsBeq a c && avsBeq b d
  | .iface t v, .iface u w => Nat.beq t u && v.beq w
  | .agg a, .agg b => avsBeq a b
  | .tup a, .tup b => avsBeq a b
  | _, _ => false
noncomputable def avsBeq : List AV → List AV → Bool
  | [], [] => true
  | a :: as, b :: bs => a.beq b && avsBeq as bs
  | _, _ => false
end

/-! ### A region whose order is open -/
/-- The edges that bind. -/
noncomputable def ons (o : Oper) : List Nat := o.after.toList.filterMap fun e => if Region.binds .any e then some e.on else none

noncomputable def orAll (bs : List Nat) : List Nat → Nat
  | [] => 0
  | i :: r => Nat.lor (Nat.lor (Nat.shiftLeft 1 i) ((nth bs i).getD 0)) (orAll bs r)

/-- Of each operation: what stands ahead of it, as bits. -/
noncomputable def befs : List Oper → List Nat → List Nat
  | [], bs => bs
  | o :: r, bs => befs r (bs ++ [orAll bs (ons o)])

inductive Kind where
  | pure | load | alloc | anchor

noncomputable def noEa : Operand → Res AV := fun _ => .fail ""
noncomputable def noH : H := ⟨0, .nil⟩

noncomputable def looks (ops : List Oper) (o : Oper) : List Nat :=
  (o.op.operands.toList.filterMap fun | .tmp t => some t | _ => none) ++
  (match o.guard with
   | some (g, _) => (match nth ops g with
     | some q => q.dst.toList
     | none => [])
   | none => [])

noncomputable def has : List Nat → Nat → Bool
  | [], _ => false
  | x :: r, y => Nat.beq x y || has r y

section
variable (P : Program)
noncomputable def kindC : Cls → Kind
  | .pure _ => .pure
  | .load _ => .load
  | .alloc _ => .alloc
  | _ => .anchor
noncomputable def kindO (op : Op) : Kind := kindC (cls P [] noEa op)

/-- May i and j (i ahead of j in the text) be done either way round, as far as temporaries go; or is i ahead of j anyway? -/
noncomputable def apartO (ops : List Oper) (i : Nat) (x : Oper) (y : Oper) (by_ : Nat) : Bool :=
  bit by_ i ||
    ((match x.dst with
     | some d => !(has (looks ops y) d) && (match y.dst with
       | some e => !(Nat.beq d e)
       | none => true)
     | none => true) &&
     (match y.dst with
     | some e => !(has (looks ops x) e)
     | none => true))

noncomputable def apartAll (ops : List Oper) (y : Oper) (by_ : Nat) : List Oper → Nat → Nat → Bool
  | [], _, _ => true
  | x :: r, i, j => Nat.ble j i || (apartO ops i x y by_ && apartAll ops y by_ r (i + 1) j)

/-- Region's form: what the law of open orders asks. -/
noncomputable def regOKGo (ops : List Oper) (bs : List Nat) : List Oper → Nat → Bool
  | [], _ => true
  | o :: r, j =>
    (ons o).all (fun e => Nat.blt e j) && (Nat.beq ((nth bs j).getD 0) (orAll bs (ons o)) && (apartAll ops o ((nth bs j).getD 0) ops 0 j && regOKGo ops bs r (Nat.succ j)))

noncomputable def regOK (ops : List Oper) (bs : List Nat) : Bool := regOKGo ops bs ops 0

noncomputable def Kind.isAnchor : Kind → Bool
  | .anchor => true
  | _ => false

/-- Those of the first n that are bits of m, but none of done. -/
noncomputable def picks (m done : Nat) : Nat → List Nat
  | 0 => []
  | n + 1 => picks m done n ++ (bif bit m n && !(bit done n) then [n] else [])

/-- The order in which the evaluator goes: the anchors in the text's order, each behind what it hangs on alone. -/
noncomputable def canonGo (bs : List Nat) (n : Nat) : List Oper → Nat → Nat → List Nat
  | [], _, done => picks (Nat.shiftLeft 1 n - 1) done n
  | o :: r, j, done =>
    match kindO P o.op with
    | .anchor =>
      let b := (nth bs j).getD 0
      picks b done j ++ [j] ++ canonGo bs n r (j + 1) (Nat.lor (Nat.lor done b) (Nat.shiftLeft 1 j))
    | _ => canonGo bs n r (j + 1) done

noncomputable def canon (ops : List Oper) (bs : List Nat) : List Nat := canonGo P bs ops.length ops 0 0

variable (X : Hooks) (pc : PC)

/-- Does a load tell the same ahead of each anchor that it may be done ahead of? -/
noncomputable def sameAhead (ea : Operand → Res AV) (op : Op) (v : AV) (b : Nat) : List (Nat × H) → Bool
  | [] => true
  | (a, h) :: r =>
    (bit b a || (match cls P pc ea op with
      | .load f => (match f h with
        | .ok w => w.beq v
        | _ => false)
      | _ => false)) && sameAhead ea op v b r

noncomputable def addrBelow (ea : Operand → Res AV) (base : Nat) : Op → Bool
  | .load _ a => (match ea a with
    | .ok (.ptr id _) => Nat.blt id base
    | _ => false)
  | _ => false

/-- One operation of such a region: i its place, b what stands ahead of it; blocks that it makes have the number base + i. -/
noncomputable def stepD (r : Rec) (fr : Fr) (ops : List Oper) (base i b : Nat) (o : Oper) (tm : Tm) (h : H) (snaps : List (Nat × H)) : Res (Tm × H × List (Nat × H)) :=
  (wantA pc ops tm o).bind fun w =>
    bif w then
      match cls P pc (evalA tm) o.op with
      | .pure v => v.bind fun v => (putA fr.nt tm o.dst (some v)).bind fun tm => .ok (tm, h, snaps)
      | .load f => (f h).bind fun v =>
          bif addrBelow (evalA tm) base o.op && sameAhead P pc (evalA tm) o.op v b snaps then (putA fr.nt tm o.dst (some v)).bind fun tm => .ok (tm, h, snaps)
          else .fail "a load whose order matters"
      | .alloc x => x.bind fun x => (putA fr.nt tm o.dst (some (x.2 (base + i)))).bind fun tm => .ok (tm, h.set (base + i) x.1, snaps)
      | c => (opC X pc r (evalA tm) h c).bind fun x => (putA fr.nt tm o.dst x.1).bind fun tm => .ok (tm, x.2, (i, h) :: snaps)
    else (putA fr.nt tm o.dst (some (.tup []))).bind fun tm => .ok (tm, h, (match kindO P o.op with
      | .anchor => (i, h) :: snaps
      | _ => snaps))

noncomputable def opsD (r : Rec) (fr : Fr) (ops : List Oper) (bs : List Nat) (base full : Nat) : List Nat → Tm → H → List (Nat × H) → Nat → Res (Tm × H)
  | [], tm, h, _, done => bif Nat.beq done full then .ok (tm, h) else .fail "opsD: not all"
  | i :: l, tm, h, snaps, done =>
    match nth ops i with
    | none => .fail "opsD"
    | some o =>
      bif bit done i then .fail "opsD: twice"
      else bif Nat.beq (Nat.land ((nth bs i).getD 0) done) ((nth bs i).getD 0) && (!(kindO P o.op).isAnchor || Nat.beq done ((nth bs i).getD 0)) then
        (stepD P X pc r fr ops base i ((nth bs i).getD 0) o tm h snaps).bind fun x => opsD r fr ops bs base full l x.1 x.2.1 x.2.2 (Nat.lor done (Nat.shiftLeft 1 i))
      else .fail "opsD: too early"

noncomputable def regionD (r : Rec) (fr : Fr) (ops : List Oper) (tm : Tm) (h : H) : Res (Tm × H) :=
  bif regOK ops (befs ops []) then
    opsD P X pc r fr ops (befs ops []) h.next (Nat.shiftLeft 1 ops.length - 1) (canon P ops (befs ops [])) tm ⟨h.next + ops.length, h.tr⟩ [] 0
  else .fail "a region whose order is open, of a form that is not covered"

/-! ### Which temporaries outlive a region -/
/-- Of a region: temporaries that it reads and has not written. -/
noncomputable def freeOps (ops : List Oper) : List Oper → Nat → Nat → Nat
  | [], _, m => m
  | o :: r, w, m =>
    freeOps ops r (match o.dst with
      | some d => Nat.lor w (Nat.shiftLeft 1 d)
      | none => w) ((looks ops o).foldl (fun m t => bif bit w t then m else Nat.lor m (Nat.shiftLeft 1 t)) m)

def opndMask : Operand → Nat
  | .tmp t => Nat.shiftLeft 1 t
  | _ => 0

noncomputable def freeC : Code → Nat
  | .region _ ops _ => freeOps ops.toList ops.toList 0 0
  | .seq a b => Nat.lor (freeC a) (freeC b)
  | .cond c a b => Nat.lor (opndMask c) (Nat.lor (freeC a) (freeC b))
  | .block _ b => freeC b
  | .loop b => freeC b
  | .scope b => freeC b
  | .rangeFunc f _ a b => Nat.lor (opndMask f) (Nat.lor (freeC a) (freeC b))
  | _ => 0

noncomputable def maskOf (fn : Func) : Nat :=
  fn.results.toList.foldl (fun m r => Nat.lor m (Nat.shiftLeft 1 (match r with
    | .tmp t => t
    | .cell a _ => a))) (match fn.body with
    | some c => freeC c
    | none => 0)

/-! ### Statements -/
noncomputable def exitOf (c : Code) : Option Ex :=
  match c with
  | .ret => some .ret
  | .exit id => some (.exit id)
  | .goto l => some (.goto l)
  | _ => none

noncomputable def loopDfr (h : H) : Option Nat → Option (Nat × H × List Nat)
  | some l => (match h.get l with
    | some (.loop _ _ _ _ _ _ _ _ _ d) => some (d, h, [])
    | _ => none)
  | none => some (h.next, h.new .defs, [h.next])

noncomputable def tmOf (fr : Fr) (st : St) : Tm := ⟨fr.mask, st.tm, []⟩

noncomputable def rangeEnd (l : Nat) (tm : T AV) (marks : List Nat) (h : H) : Res (Ex × St) :=
  match h.get l with
  | some (.loop fn nt mask tm0 ps assign body s pend d) =>
    (match s with
    | .busy => .fail "range: busy"
    | _ =>
      match pend with
      | none => .ok (.normal, ⟨tm, h.set l (.loop fn nt mask tm0 ps assign body .exhausted pend d), marks⟩)
      | some c => (match exitOf c with
        | some e => .ok (e, ⟨tm, h.set l (.loop fn nt mask tm0 ps assign body .exhausted pend d), marks⟩)
        | none => .fail "range: a jump"))
  | _ => .fail "range: the loop is gone"

/-- A call of a function that has a body. -/
noncomputable def callE (r : Rec) (f : Nat) (args : List AV) (h : H) : Res (AV × H) :=
  match X.sum f with
  | some g => g pc args h
  | none =>
    match X.ext f with
    | some _ => .fail "range over a function without a body"
    | none => r.fn f args h

noncomputable def rangeA (r : Rec) (fr : Fr) (f : Operand) (ps : List Nat) (assign body : Code) (st : St) : Res (Ex × St) :=
  match loopDfr st.h fr.round with
  | none => .fail "range: no such loop"
  | some (d, h, mk) =>
    (evalA (tmOf fr st) f).bind fun fv =>
      match fv with
      | .func (.func g) a b =>
        (callE X pc r g (a ++ [.func (.yield h.next) [] []] ++ b) (h.new (.loop fr.fn fr.nt fr.mask st.tm ps assign body .ready none d))).bind fun x => rangeEnd h.next st.tm (mk ++ st.marks) x.2
      | _ => .fail "range over what"

end
abbrev CodeF : Type := Program → Hooks → PC → Rec → Fr → St → Res (Ex × St)
noncomputable def cNormal : CodeF := fun _ _ _ _ _ st => .ok (.normal, st)
noncomputable def cSeq (r : Rec) (fr : Fr) (b : Code) (x : Ex × St) : Res (Ex × St) :=
  Ex.rec (motive := fun _ => Res (Ex × St)) (r.code fr b x.2) (fun id => .ok (.exit id, x.2)) (fun l => .ok (.goto l, x.2)) (.ok (.ret, x.2)) x.1
noncomputable def cRegion (_ : Nat) (ops : Array Oper) (draw : Bool) : CodeF := fun P X pc r fr st =>
  (Bool.rec (motive := fun _ => Res (Tm × H)) (opsA P X pc r fr ops.toList ops.toList (tmOf fr st) st.h) (regionD P X pc r fr ops.toList (tmOf fr st) st.h) draw).bind fun x => .ok (.normal, ⟨x.1.tree, x.2, st.marks⟩)
noncomputable def cSeqC (a b : Code) (_ _ : CodeF) : CodeF := fun _ _ _ r fr st => (r.code fr a st).bind (cSeq r fr b)
noncomputable def cTest (pc : PC) (r : Rec) (fr : Fr) (a b : Code) (st : St) : AV → Res (Ex × St)
  | .bool s => (decR pc s).bind fun t => Bool.rec (motive := fun _ => Res (Ex × St)) (r.code fr b st) (r.code fr a st) t
  | _ => .fail "cond"
noncomputable def cCond (c : Operand) (a b : Code) (_ _ : CodeF) : CodeF := fun _ _ pc r fr st => (evalA (tmOf fr st) c).bind (cTest pc r fr a b st)
noncomputable def cOut (id : Nat) (x : Ex × St) : Res (Ex × St) :=
  match x.1 with
  | .exit j => bif Nat.beq j id then .ok (.normal, x.2) else .ok (.exit j, x.2)
  | e => .ok (e, x.2)
noncomputable def cBlock (id : Nat) (b : Code) (_ : CodeF) : CodeF := fun _ _ _ r fr st => (r.code fr b st).bind (cOut id)
noncomputable def cLoop (b : Code) (_ : CodeF) : CodeF := fun _ _ _ r fr st => r.loop fr b st
noncomputable def cExit (id : Nat) : CodeF := fun _ _ _ _ _ st => .ok (.exit id, st)
noncomputable def cGoto (l : Nat) : CodeF := fun _ _ _ _ _ st => .ok (.goto l, st)
noncomputable def cRet : CodeF := fun _ _ _ _ _ st => .ok (.ret, st)
noncomputable def cNoGoto (x : Ex × St) : Res (Ex × St) :=
  match x.1 with
  | .goto _ => .fail "goto"
  | e => .ok (e, x.2)
noncomputable def cScope (b : Code) (_ : CodeF) : CodeF := fun _ _ _ r fr st => (r.code fr b st).bind cNoGoto
noncomputable def cRange (f : Operand) (ps : Array Tmp) (assign body : Code) (_ _ : CodeF) : CodeF := fun _ X pc r fr st => rangeA X pc r fr f ps.toList assign body st
noncomputable def cRefuse (_ : String) : CodeF := fun _ _ _ _ _ _ => .fail "a refused statement"

section
variable (P : Program) (X : Hooks) (pc : PC)
noncomputable def codeA (r : Rec) (fr : Fr) (c : Code) (st : St) : Res (Ex × St) :=
  Code.rec (motive := fun _ => CodeF) cNormal cRegion cSeqC cCond cBlock cLoop cRange cExit cScope (fun _ => cNormal) cGoto cRet cRefuse c P X pc r fr st

noncomputable def loopNext (r : Rec) (fr : Fr) (body : Code) (x : Ex × St) : Res (Ex × St) :=
  Ex.rec (motive := fun _ => Res (Ex × St)) (r.loop fr body x.2) (fun id => .ok (.exit id, x.2)) (fun l => .ok (.goto l, x.2)) (.ok (.ret, x.2)) x.1
noncomputable def loopA (r : Rec) (fr : Fr) (body : Code) (st : St) : Res (Ex × St) := (r.code fr body st).bind (loopNext r fr body)

noncomputable def takeA (h : H) : List Nat → Res H
  | [] => .ok h
  | id :: r => match h.get id with
    | some .defs => takeA (h.del id) r
    | _ => .fail "deferred calls"

noncomputable def resultsA (tm : Tm) (h : H) : List ResultVar → Res (List AV)
  | [] => .ok []
  | .tmp t :: r => (Res.ofO "a result" (tm.get t)).bind fun v => (resultsA tm h r).bind fun vs => .ok (v :: vs)
  | .cell a t :: r => (Res.ofO "a result" (tm.get a)).bind fun p => (aLoad P h t p).bind fun v => (resultsA tm h r).bind fun vs => .ok (v :: vs)

def oneOf : List AV → AV
  | [v] => v
  | vs => .tup vs

noncomputable def fnEnd (mask : Nat) (rs : List ResultVar) (x : Ex × St) : Res (AV × H) :=
  match x.1 with
  | .normal | .ret => (takeA x.2.h x.2.marks).bind fun h => (resultsA P ⟨mask, x.2.tm, []⟩ h rs).bind fun vs => .ok (oneOf vs, h)
  | _ => .fail "a jump out of a function"

/-- The arguments of the mask. -/
noncomputable def argsT (mask : Nat) (t : T AV) : Nat → List AV → T AV
  | _, [] => t
  | k, v :: vs => argsT mask (bif bit mask k then t.put k v else t) (Nat.succ k) vs

noncomputable def fnA (r : Rec) (f : Nat) (args : List AV) (h : H) : Res (AV × H) :=
  match P.funcs[f]? with
  | none => .fail "no such function"
  | some fn =>
    match fn.body with
    | none => .fail "a function without a body"
    | some c =>
      bif fn.name == "runtime.NumGoroutine" then .fail "NumGoroutine"
      else bif Nat.ble args.length fn.ntmps then
        (r.code ⟨f, fn.ntmps, maskOf fn, none⟩ c ⟨argsT (maskOf fn) .nil 0 args, h, []⟩).bind (fnEnd P (maskOf fn) fn.results.toList)
      else .fail "too many arguments"

noncomputable def iter (n : Nat) : Rec :=
  Nat.rec (motive := fun _ => Rec) ⟨fun _ _ _ => .fail "fuel", fun _ _ _ => .fail "fuel", fun _ _ _ => .fail "fuel"⟩ (fun _ r => ⟨codeA P X pc r, loopA r, fnA P r⟩) n

/-- A call, by so much fuel. -/
noncomputable def run (n f : Nat) (args : List AV) (h : H) : Res (AV × H) := callF X pc (iter P X pc n) f args h
end
end Go.Ev
