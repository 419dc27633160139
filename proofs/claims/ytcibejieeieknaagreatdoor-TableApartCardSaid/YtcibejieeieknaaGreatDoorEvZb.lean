/- Summaries of functions with told arguments hold of the model; no theorem of the program yet; no conditions. -/
import Derived.Test.YtcibejieeieknaaGreatDoorEvV
import Derived.Lib.Bytealg
import Derived.Laws.BitsLemmas
import Derived.Below
set_option linter.unusedSimpArgs false
set_option linter.unusedVariables false
namespace Go.Ev

/-! ### Values that name no block of the run's own -/
noncomputable def lowF : Fn → Bool
  | .func _ => true
  | _ => false
mutual
noncomputable def AV.low : AV → Bool
  | .ptr id _ => Nat.blt id 64
  | .slc id _ _ _ _ _ => Nat.blt id 64
  | .slv id _ _ _ _ => Nat.blt id 64
  | .ptrv id _ _ _ _ => Nat.blt id 64
  | .pick cs _ => avsLow cs
  | .map id => Nat.blt id 64
  | .func f a b => lowF f && (avsLow a && avsLow b)
  | .iface _ v => v.low
  | .agg cs => avsLow cs
  | .tup vs => avsLow vs
  | _ => true
noncomputable def avsLow : List AV → Bool
  | [] => true
  | a :: as => a.low && avsLow as
end

/-! ### Package variables that hold what is known -/
/-- A variable's number, its cells' type, its cells. -/
abbrev GL := List (Nat × Nat × List AV)
noncomputable def glBlk (e : Nat) (cs : List AV) : Blk := .cells false false e cs.length (T.puts .nil 0 cs)
noncomputable def layG : GL → T Blk
  | [] => .nil
  | (k, e, cs) :: r => (layG r).put k (glBlk e cs)
noncomputable def HG (gl : GL) : H := ⟨64, layG gl⟩

noncomputable def T.beqA : T AV → T AV → Bool
  | .nil, .nil => true
  | .node v l r, .node v' l' r' => (match v, v' with
    | none, none => true
    | some a, some b => a.beq b
    | _, _ => false) && (l.beqA l' && r.beqA r')
  | _, _ => false

noncomputable def blkSame (b : Option Blk) (e : Nat) (cs : List AV) : Bool :=
  match b with
  | some (.cells false false e' n t) => Nat.beq e' e && (Nat.beq n cs.length && t.beqA (T.puts .nil 0 cs))
  | _ => false

noncomputable def hasG (gl : GL) (h : H) : Bool := gl.all fun x => blkSame (h.get x.1) x.2.1 x.2.2
noncomputable def glOK (gl : GL) : Bool := gl.all fun x => Nat.blt x.1 64 && avsLow x.2.2

/-- A summary of a call by these arguments. -/
noncomputable def sumArg (gl : GL) (as : List AV) (v : AV) (nx : Nat) (l : List SBlk) : PC → List AV → H → Res (AV × H) := fun _ args h =>
  bif avsBeq args as && hasG gl h then .ok (v.sh (h.next - 64), ⟨nx + (h.next - 64), laySum (h.next - 64) h.tr l⟩) else .fail "a summary of other arguments"

/-- The first summary, or the second one. -/
noncomputable def sumOr (a b : PC → List AV → H → Res (AV × H)) : PC → List AV → H → Res (AV × H) := fun pc args h =>
  match a pc args h with
  | .ok x => .ok x
  | _ => b pc args h

abbrev SEnt := List AV × AV × Nat × List SBlk

noncomputable def sumNo : PC → List AV → H → Res (AV × H) := fun _ _ _ => .fail "no summary of these arguments"

noncomputable def sumTab (gl : GL) : List SEnt → PC → List AV → H → Res (AV × H)
  | [] => sumNo
  | e :: r => sumOr (sumArg gl e.1 e.2.1 e.2.2.1 e.2.2.2) (sumTab gl r)

noncomputable def chkEnt (gl : GL) (X : Hooks) (P : Program) (k f : Nat) (e : SEnt) : Bool := avsLow e.1 && chkSum e.2.1 e.2.2.1 e.2.2.2 (run P X [] k f e.1 (HG gl))

section
variable {ρ : Env} {μ : Mu}
theorem low_mu {id : Nat} {p : Loc} (h : Nat.blt id 64 = true) (hp : μ id = some p) : muG μ id = some p := by
  unfold muG
  rw [if_pos (by simpa using h)]; exact hp

mutual
theorem VR_low : ∀ {a : AV} {v : Value}, a.low = true → VR ρ μ a v → VR ρ (muG μ) a v
  | .int _ _, _, _, hv => hv
  | .bool _, _, _, hv => hv
  | .str _ _, _, _, hv => hv
  | .nilp, _, _, hv => hv
  | .ptr _ _, _, hl, ⟨p, h1, h2⟩ => ⟨p, low_mu hl h1, h2⟩
  | .nils, _, _, hv => hv
  | .slc .., _, hl, ⟨p, c, h1, h2⟩ => ⟨p, c, low_mu hl h1, h2⟩
  | .emp, _, _, hv => hv
  | .slv .., _, hl, ⟨p, c, m, h0, h1, h2⟩ => ⟨p, c, m, h0, low_mu hl h1, h2⟩
  | .ptrv .., _, hl, ⟨p, j, h1, h2⟩ => ⟨p, j, low_mu hl h1, h2⟩
  | .pick _ _, _, hl, ⟨j, h1, h2, h3⟩ => ⟨j, h1, VRn_low (by simpa only [AV.low] using hl) h2, h3⟩
  | .nilm, _, _, hv => hv
  | .map _, _, hl, ⟨p, h1, h2⟩ => ⟨p, low_mu hl h1, h2⟩
  | .nilf, _, _, hv => hv
  | .func fn _ _, _, hl, ⟨f, a, b, h1, h2, h3, h4⟩ => by
    simp only [AV.low, Bool.and_eq_true] at hl
    refine ⟨f, a, b, h1, ?_, VRs_low hl.2.1 h3, VRs_low hl.2.2 h4⟩
    cases fn with
    | func _ => exact h2
    | _ => exact absurd hl.1 (by simp [lowF])
  | .nili, _, _, hv => hv
  | .iface _ _, _, hl, ⟨y, h1, h2⟩ => ⟨y, h1, VR_low (by simpa only [AV.low] using hl) h2⟩
  | .agg _, _, hl, ⟨ys, h1, h2⟩ => ⟨ys, h1, VRs_low (by simpa only [AV.low] using hl) h2⟩
  | .tup _, _, hl, ⟨ys, h1, h2⟩ => ⟨ys, h1, VRs_low (by simpa only [AV.low] using hl) h2⟩
theorem VRs_low : ∀ {as : List AV} {vs : List Value}, avsLow as = true → VRs ρ μ as vs → VRs ρ (muG μ) as vs
  | [], _, _, hv => hv
  | _ :: _, _, hl, ⟨y, r, h1, h2, h3⟩ => by
    simp only [avsLow, Bool.and_eq_true] at hl
    exact ⟨y, r, h1, VR_low hl.1 h2, VRs_low hl.2 h3⟩
theorem VRn_low : ∀ {as : List AV} {j : Nat} {v : Value}, avsLow as = true → VRn ρ μ as j v → VRn ρ (muG μ) as j v
  | [], _, _, _, hv => hv
  | _ :: _, 0, _, hl, hv => by
    simp only [avsLow, Bool.and_eq_true] at hl
    exact VR_low hl.1 hv
  | _ :: as, j + 1, _, hl, hv => by
    simp only [avsLow, Bool.and_eq_true] at hl
    exact VRn_low (as := as) (j := j) hl.2 hv
end
end

section
variable {ρ : Env} {P : Program} {pc : PC} {X : Hooks}

theorem T.beqA_eq : ∀ {s t : T AV}, s.beqA t = true → s = t
  | .nil, .nil, _ => rfl
  | .nil, .node _ _ _, h => by simp [T.beqA] at h
  | .node _ _ _, .nil, h => by simp [T.beqA] at h
  | .node v l r, .node v' l' r', h => by
    simp only [T.beqA, Bool.and_eq_true] at h
    obtain ⟨h1, h2, h3⟩ := h
    rw [T.beqA_eq h2, T.beqA_eq h3]
    cases v <;> cases v' <;> first
      | rfl
      | (simp only at h1; rw [AV.beq_eq h1])
      | simp at h1

theorem HG_get : ∀ {gl : GL} {id : Nat} {b : Blk}, (HG gl).get id = some b → ∃ e cs, (id, e, cs) ∈ gl ∧ b = glBlk e cs
  | [], id, b, h => by
    have h' : (T.nil : T Blk).get id = some b := h
    rw [T.get_nil] at h'; cases h'
  | (k, e, cs) :: r, id, b, h => by
    have h' : ((layG r).put k (glBlk e cs)).get id = some b := h
    rw [T.get_put] at h'
    split at h'
    · rename_i q; cases h'; subst q; exact ⟨e, cs, List.mem_cons_self, rfl⟩
    · obtain ⟨e', cs', h1, h2⟩ := HG_get (gl := r) h'
      exact ⟨e', cs', List.mem_cons_of_mem _ h1, h2⟩

theorem blkSame_eq {b : Option Blk} {e : Nat} {cs : List AV} (h : blkSame b e cs = true) : b = some (glBlk e cs) := by
  unfold blkSame at h
  split at h
  · rename_i e' n t
    simp only [Bool.and_eq_true] at h
    rw [beq_eq h.1, beq_eq h.2.1, T.beqA_eq h.2.2]; rfl
  · cases h

theorem RelGL {gl : GL} {μ : Mu} {h : H} {nx : Nat} {w : World} (R : Rel ρ μ h.get nx w) (hg : hasG gl h = true) (ho : glOK gl = true) : Rel ρ (muG μ) (HG gl).get (HG gl).next w where
  blk := fun id b hb => by
    obtain ⟨e, cs, h1, rfl⟩ := HG_get hb
    have h2 := blkSame_eq (List.all_eq_true.1 hg _ h1)
    have h3 := List.all_eq_true.1 ho _ h1
    simp only [Bool.and_eq_true] at h3
    obtain ⟨p, o, q1, q2, c, e', fr, rfl, f1, f2, f3, f4⟩ := R.blk _ _ h2
    refine ⟨p, _, low_mu h3.1 q1, q2, c, e', fr, rfl, f1, f2, (fun h => by cases h), fun j v hj hv => ?_⟩
    obtain ⟨x, g1, g2⟩ := f4 j v hj hv
    refine ⟨x, g1, VR_low ?_ g2⟩
    have := puts_get hv
    have hm := List.mem_of_getElem? this
    have all : ∀ {l : List AV} {v : AV}, avsLow l = true → v ∈ l → v.low = true := by
      intro l
      induction l with
      | nil => intro v _ h; cases h
      | cons a l ih =>
        intro v h1 h2
        simp only [avsLow, Bool.and_eq_true] at h1
        rcases List.mem_cons.1 h2 with rfl | h2
        · exact h1.1
        · exact ih h1.2 h2
    exact all h3.2 hm
  inj := fun i j b b' p q hi hj hb => by
    obtain ⟨e, cs, h1, rfl⟩ := HG_get hi
    cases hb
  fresh := fun id p h => by
    unfold muG at h
    split at h
    · rename_i hk; exact hk
    · cases h
  glob := fun k hk => by
    obtain ⟨z, hz⟩ := R.glob k hk
    exact ⟨z, by unfold muG; rw [if_pos hk]; exact hz⟩

theorem HG_own {gl : GL} {id : Nat} {b : Blk} (h : (HG gl).get id = some b) : b.own = false := by
  obtain ⟨e, cs, _, rfl⟩ := HG_get h
  rfl

theorem sumArg_ok {gl : GL} {as : List AV} {v : AV} {nx : Nat} {l : List SBlk} {k f : Nat} (xOK : HooksOK P ρ X []) (hx : X.ext f = none) (hm : P.follows .mixedOrders = true) (hgl : glOK gl = true) (hlow : avsLow as = true) (h : chkSum v nx l (run P X [] k f as (HG gl)) = true)
    (hfn : ∃ fn, P.funcs[f]? = some fn ∧ fn.body.isNone = false ∧ (fn.name == "runtime.NumGoroutine") = false) : FnOK P ρ (sumArg gl as v nx l pc) f := by
  intro args hh v' h' hr
  refine ⟨hfn, ?_⟩
  intro μ w us R hv
  unfold chkSum at h
  split at h
  · rename_i v1 h1 hrun
    simp only [Bool.and_eq_true] at h
    obtain ⟨hveq, hnx, hall⟩ := h
    have hveq := AV.beq_eq hveq
    subst hveq
    have hnx : h1.next ≤ nx := by simpa using hnx
    cases hab : avsBeq args as && hasG gl hh with
    | false => unfold sumArg at hr; rw [hab] at hr; cases hr
    | true =>
      have hr0 : Res.ok (v1.sh (hh.next - 64), (⟨nx + (hh.next - 64), laySum (hh.next - 64) hh.tr l⟩ : H)) = .ok (v', h') := by
        unfold sumArg at hr
        rw [hab] at hr
        exact hr
      simp only [Bool.and_eq_true] at hab
      have hgh := hab.2
      have hab := avsBeq_eq hab.1
      subst hab
      cases hr0
      have h64 : 64 ≤ hh.next := by obtain ⟨z, hz⟩ := R.glob 63 (by omega); have := R.fresh _ _ hz; omega
      refine callsIn_wide.2 ((run_sound xOK PC.holds_nil hm (RelGL R hgh hgl) (VRs_low hlow hv) hx hrun).mono ?_)
      rintro e w' ⟨x, μ1, rfl, hx, R1, S1, n1⟩
      have hsh := muS_sh h64 S1.le R.glob
      have n1 : 64 ≤ h1.next := n1
      have hkeep : ∀ b, b < w.heap.size → w'.heap[b]? = w.heap[b]? := fun b hb => S1.frame b hb fun id bk p h ho => by rw [HG_own h] at ho; cases ho
      have hnew : ∀ id b p, h1.get id = some b → μ1 id = some p → b.own = true → w.heap.size ≤ p.1 := by
        intro id b p h2 h3 hob
        rcases S1.own id b p h2 h3 with h4 | ⟨_, b', _, h4, _, _, h5⟩
        · exact h4
        · have h5 := h5 hob; rw [HG_own h4] at h5; cases h5
      have old : ∀ {j : Nat} {p : Loc}, μ j = some p → muS μ μ1 hh.next j = some p := by
        intro j p hj
        unfold muS
        rw [if_pos (R.fresh _ _ hj)]; exact hj
      have hi : ∀ {id : Nat}, 64 ≤ id → shI (hh.next - 64) id = id + (hh.next - 64) := by
        intro id hid
        unfold shI
        have : Nat.blt id 64 = false := by
          cases hb : Nat.blt id 64 with
          | false => rfl
          | true => have : id < 64 := by simpa using hb
                    omega
        rw [this]; rfl
      -- a block: old or new
      have two : ∀ {j : Nat} {b : Blk}, (laySum (hh.next - 64) hh.tr l).get j = some b →
          (hh.get j = some b) ∨ (∃ id b1 p o, j = id + (hh.next - 64) ∧ 64 ≤ id ∧ h1.get id = some b1 ∧ μ1 id = some p ∧ muS μ μ1 hh.next j = some p ∧ w'.heap[p.1]? = some o ∧ BR ρ (muS μ μ1 hh.next) p b o ∧ b.own = true ∧ b1.own = true ∧ w.heap.size ≤ p.1) := by
        intro j b hb
        rcases laySum_get hb with hb | ⟨id, opn, e, cs, q1, q2, q3⟩
        · exact .inl hb
        · right
          obtain ⟨r1, b1, p, o, r2, r3, r4, r5⟩ := chkBlk_BR R1 (fun _ _ h => h) hsh (List.all_eq_true.1 hall _ q1)
          have r6 := hsh _ _ r3
          rw [hi r1, ← q2] at r6
          have ho : b1.own = true := by
            have hc := List.all_eq_true.1 hall _ q1
            simp only [chkBlk, r2] at hc
            cases b1 with
            | cells own opn' e' m vals => cases own <;> first | rfl | simp at hc
            | _ => first | rfl | simp at hc
          exact ⟨id, b1, p, o, q2, r1, r2, r3, r6, r4, q3 ▸ r5, by rw [q3]; rfl, ho, hnew _ _ _ r2 r3 ho⟩
      have oldp : ∀ {j : Nat} {b : Blk} {p : Loc}, hh.get j = some b → muS μ μ1 hh.next j = some p → μ j = some p := by
        intro j b p hb hp
        obtain ⟨q, _, hq, _⟩ := R.blk _ _ hb
        rw [old hq] at hp
        cases hp
        exact hq
      refine ⟨x, muS μ μ1 hh.next, rfl, VR_sh hsh hx, ⟨?_, ?_, ?_, fun k hk => let ⟨z, hz⟩ := R.glob k hk; ⟨z, old hz⟩⟩, ⟨fun id p hp => old hp, ?_, ?_, S1.size, S1.tape, S1.os, S1.output, fun b hb _ => hkeep b hb, ?_, S1.fz⟩, ?_⟩
      · intro j b hb
        rcases two hb with hb | ⟨id, b1, p, o, q1, q2, q3, q4, q5, q6, q7, _⟩
        · obtain ⟨p, o, r1, r2, r3⟩ := R.blk _ _ hb
          exact ⟨p, o, old r1, by rw [hkeep _ (Array.getElem?_eq_some_iff.1 r2).1]; exact r2, BR_mono (fun _ _ h => old h) r3⟩
        · exact ⟨p, o, q5, q6, q7⟩
      · intro i j b b' p q hi' hj ho hne hp hq
        rcases two hi' with hi' | ⟨id, b1, p1, o, q1, q2, q3, q4, q5, q6, q7, q8, q9, q10⟩ <;> rcases two hj with hj | ⟨id', b2, p2, o', s1, s2, s3, s4, s5, s6, s7, s8, s9, s10⟩
        · exact R.inj i j b b' p q hi' hj ho hne (oldp hi' hp) (oldp hj hq)
        · rw [s5] at hq; cases hq
          have := R.lt hi' (oldp hi' hp)
          omega
        · rw [q5] at hp; cases hp
          have := R.lt hj (oldp hj hq)
          omega
        · rw [q5] at hp; cases hp
          rw [s5] at hq; cases hq
          exact R1.inj id id' b1 b2 _ _ q3 s3 q9 (fun e => hne (by rw [q1, s1, e])) q4 s4
      · intro id p hp
        show id < nx + (hh.next - 64)
        unfold muS at hp
        split at hp
        · omega
        · have := R1.fresh _ _ hp
          omega
      · intro id p hp
        unfold muS at hp
        split at hp
        · exact .inl hp
        · exact .inr (by omega)
      · intro j b hb
        rcases two hb with hb | ⟨id, b1, p, o, q1, q2, _⟩
        · exact .inl ⟨b, hb⟩
        · exact .inr (by omega)
      · intro j b p hb hp
        rcases two hb with hb | ⟨id, b1, p1, o, q1, q2, q3, q4, q5, q6, q7, q8, q9, q10⟩
        · exact .inr ⟨j, b, p, hb, oldp hb hp, rfl, fun h => h⟩
        · rw [q5] at hp; cases hp; exact .inl q10
      · show hh.next ≤ nx + (hh.next - 64)
        omega
  · cases h


theorem sumOr_ok {a b : PC → List AV → H → Res (AV × H)} {f : Nat} (ha : FnOK P ρ (a pc) f) (hb : FnOK P ρ (b pc) f) : FnOK P ρ (sumOr a b pc) f := by
  intro args h v h' hr
  unfold sumOr at hr
  split at hr
  · rename_i x e
    cases hr
    exact ha args h _ _ e
  · exact hb args h v h' hr

theorem sumNo_ok {f : Nat} : FnOK P ρ (sumNo pc) f := fun args h v h' hr => by cases hr

theorem sumTab_ok {gl : GL} {f k : Nat} (hgl : glOK gl = true) (xOK : HooksOK P ρ X []) (hx : X.ext f = none) (hm : P.follows .mixedOrders = true)
    (hfn : ∃ fn, P.funcs[f]? = some fn ∧ fn.body.isNone = false ∧ (fn.name == "runtime.NumGoroutine") = false) :
    ∀ {l : List SEnt}, l.all (chkEnt gl X P k f) = true → FnOK P ρ (sumTab gl l pc) f
  | [], _ => sumNo_ok
  | e :: r, h => by
    simp only [List.all_cons, Bool.and_eq_true] at h
    have h1 := h.1
    unfold chkEnt at h1
    simp only [Bool.and_eq_true] at h1
    exact sumOr_ok (sumArg_ok xOK hx hm hgl h1.1 h1.2 hfn) (sumTab_ok hgl xOK hx hm hfn h.2)

end
end Go.Ev

/- Texts searched for a byte, hooks put together, runs under several cases: from the evaluator to laws with package variables that are known; no theorem of the program yet; no conditions. -/
namespace Go.Ev

/-! ### internal/bytealg.IndexByteString -/
noncomputable def idxA : List SE → Nat → Nat → Res AV
  | [], _, _ => .ok (.int .i64 (.lit (.negSucc 0)))
  | .lit (.ofNat b) :: r, c, i => bif Nat.ble b 255 then (bif Nat.beq b c then .ok (.int .i64 (.lit (.ofNat i))) else idxA r c (Nat.succ i)) else .fail "IndexByteString: a byte"
  | _ :: _, _, _ => .fail "IndexByteString: a byte that is not told"

noncomputable def extIdx : PC → List AV → Res AV := fun _ as =>
  match as with
  | [.str _ bs, .int .u8 (.lit (.ofNat c))] => bif Nat.ble c 255 then idxA bs c 0 else .fail "IndexByteString: a byte"
  | _ => .fail "IndexByteString"

section
variable {ρ : Env} {P : Program} {pc : PC} {X : Hooks}

theorem idxA_spec {μ : Mu} : ∀ {bs : List SE} {c i : Nat} {v : AV}, c ≤ 255 → idxA bs c i = .ok v →
    VR ρ μ v (.int .i64 (if Lib.indexByte (bs.map fun e => UInt8.ofNat (e.den ρ).toNat) (UInt8.ofNat c) = -1 then -1 else i + Lib.indexByte (bs.map fun e => UInt8.ofNat (e.den ρ).toNat) (UInt8.ofNat c)))
  | [], c, i, v, _, h => by
    cases h
    simp [Lib.indexByte, VR, SE.den]
  | e :: r, c, i, v, hc, h => by
    cases e with
    | lit n =>
      cases n with
      | ofNat b =>
        have h : (bif Nat.ble b 255 then (bif Nat.beq b c then Res.ok (AV.int .i64 (.lit (.ofNat i))) else idxA r c (Nat.succ i)) else .fail "IndexByteString: a byte") = .ok v := h
        rcases cond_eq h with ⟨h1, h2⟩ | ⟨_, h2⟩
        · have hb : b ≤ 255 := by simpa using h1
          have e1 : ((SE.lit (Int.ofNat b)).den ρ).toNat = b := by simp [SE.den]
          rcases cond_eq h2 with ⟨h3, h4⟩ | ⟨h3, h4⟩
          · have := beq_eq h3
            subst this
            cases h4
            simp only [List.map_cons, e1]
            simp [Lib.indexByte, VR, SE.den]
          · have hne : b ≠ c := fun q => by subst q; simp at h3
            have ih := idxA_spec (μ := μ) hc h4
            have hu : (UInt8.ofNat b == UInt8.ofNat c) = false := by
              rw [beq_eq_false_iff_ne]
              intro q
              have q := congrArg UInt8.toNat q
              simp at q
              omega
            simp only [List.map_cons, e1]
            have hge := Lib.indexByte_ge (r.map fun e => UInt8.ofNat (e.den ρ).toNat) (UInt8.ofNat c)
            revert ih
            generalize hx : Lib.indexByte (r.map fun e => UInt8.ofNat (e.den ρ).toNat) (UInt8.ofNat c) = x at hge
            intro ih
            simp only [Lib.indexByte, hu, Bool.false_eq_true, if_false, hx]
            by_cases q : x = -1
            · subst q
              simpa using ih
            · have q1 : (x == -1) = false := by simpa using q
              rw [if_neg q] at ih
              simp only [q1, Bool.false_eq_true, if_false]
              rw [if_neg (by omega)]
              have : (i : Int) + (x + 1) = ((Nat.succ i : Nat) : Int) + x := by push_cast; omega
              rw [this]; exact ih
        · cases h2
      | negSucc _ => cases h
    | _ => cases h

noncomputable def extX (e : Nat) : Nat → Option (PC → List AV → Res AV) := fun f => bif Nat.beq f e then some extIdx else none

/-- Hooks: the one function without a body alone. -/
noncomputable def XE (e : Nat) : Hooks := ⟨fun _ => none, extX e, fun _ _ => none⟩

theorem XE_ok {e : Nat} {fn : Func} (hf : P.funcs[e]? = some fn) (hname : (fn.name == "runtime.NumGoroutine") = false)
    (hb : fn.body.isNone = true) (hn : Extern.findNext fn = none) (he : Extern.find fn = some Extern.BytealgIndexByte.indexByte) : HooksOK P ρ (XE e) pc := by
  refine ⟨(fun _ _ h => by cases h), ?_, (fun _ _ _ h => by cases h)⟩
  intro f g hfg args v hr μ us w hv
  have hfg : (bif Nat.beq f e then some extIdx else none) = some g := hfg
  rcases cond_eq hfg with ⟨h1, h2⟩ | ⟨_, h2⟩
  · have h1 := beq_eq h1
    subst h1
    cases h2
    unfold extIdx at hr
    split at hr
    · rename_i n bs c
      rcases cond_eq hr with ⟨h3, h4⟩ | ⟨_, h4⟩
      · have hc : c ≤ 255 := by simpa using h3
        rw [VRs_cons] at hv
        obtain ⟨y1, r1, e1, q1, hv⟩ := hv
        rw [VRs_cons] at hv
        obtain ⟨y2, r2, rfl, q2, hv⟩ := hv
        rw [VRs_nil] at hv
        subst hv
        simp only [VR] at q1 q2
        obtain ⟨s, rfl, hs⟩ := q1
        subst q2
        have hus : us = #[.string s, .int .u8 ((SE.lit (Int.ofNat c)).den ρ)] := by apply Array.ext'; simpa using e1
        subst hus
        refine ⟨_, by rw [run_callFunc_extern hf hname hb hn he, Lib.run_indexByteString]; rfl, ?_⟩
        have := idxA_spec (ρ := ρ) (μ := μ) hc h4
        rw [hs.2]
        have hcc : ((SE.lit (Int.ofNat c)).den ρ).toNat.toUInt8 = UInt8.ofNat c := by simp [SE.den]
        rw [hcc]
        revert this
        generalize Lib.indexByte (bs.map fun e => UInt8.ofNat (e.den ρ).toNat) (UInt8.ofNat c) = x
        intro this
        by_cases q : x = -1
        · subst q; simpa using this
        · rw [if_neg q] at this; simpa using this
      · cases h4
    · cases hr
  · cases h2

/-- One summary more. -/
noncomputable def Hooks.with (X : Hooks) (f : Nat) (g : PC → List AV → H → Res (AV × H)) : Hooks := ⟨fun k => bif Nat.beq k f then some g else X.sum k, X.ext, X.mth⟩

theorem HooksOK.with {f : Nat} {g : PC → List AV → H → Res (AV × H)} (x : HooksOK P ρ X pc) (h : FnOK P ρ (g pc) f) : HooksOK P ρ (X.with f g) pc := by
  refine ⟨?_, x.ext, x.mth⟩
  intro k g' hk
  have hk : (bif Nat.beq k f then some g else X.sum k) = some g' := hk
  rcases cond_eq hk with ⟨h1, h2⟩ | ⟨_, h2⟩
  · have h1 := beq_eq h1
    subst h1; cases h2; exact h
  · exact x.sum k g' h2

/-! ### A world whose package variables hold what is known -/
def HoldsG (gl : GL) (w : World) : Prop :=
  ∀ x ∈ gl, x.1 < 64 ∧ ∃ (c : Array Value) (e : TypeId) (fr : Nat × Nat), w.heap[x.1]? = some (.cells c e fr) ∧ x.2.2.length ≤ c.size ∧ ∀ (j : Nat) (v : AV), x.2.2[j]? = some v → ∃ y : Value, c[j]? = some y ∧ ∀ (ρ : Env) (μ : Mu), VR ρ μ v y

def muW (w : World) : Mu := fun k => if k < 64 then some (k, 0, match w.heap[k]? with
  | some (.cells c _ _) => c.size
  | _ => 0) else none

theorem RelW {gl : GL} {w : World} (h : HoldsG gl w) : Rel ρ (muW w) (HG gl).get (HG gl).next w where
  blk := fun id b hb => by
    obtain ⟨e, cs, h1, rfl⟩ := HG_get hb
    obtain ⟨h2, c, e', fr, h3, h4, h5⟩ := h _ h1
    simp only at h2 h3 h4 h5
    refine ⟨(id, 0, c.size), _, by unfold muW; rw [if_pos h2, h3], h3, c, e', fr, rfl, rfl, by simpa using h4, (fun h => by cases h), fun j v hj hv => ?_⟩
    obtain ⟨y, g1, g2⟩ := h5 j v (puts_get hv)
    exact ⟨y, by simpa using g1, g2 _ _⟩
  inj := fun i j b b' p q hi hj hb => by
    rw [HG_own hi] at hb; cases hb
  fresh := fun id p h => by
    unfold muW at h
    split at h
    · rename_i hk; exact hk
    · cases h
  glob := fun k hk => ⟨_, by unfold muW; rw [if_pos hk]⟩

/-- It tells 'true'. -/
noncomputable def isT (pc : PC) (r : Res (AV × H)) : Bool :=
  match r with
  | .ok (.bool b, _) => (match dec pc b with
    | some true => true
    | _ => false)
  | _ => false

theorem isT_spec {r : Res (AV × H)} (hp : pc.holds ρ) (h : isT pc r = true) : ∃ b h', r = .ok (.bool b, h') ∧ b.den ρ = true := by
  unfold isT at h
  split at h
  · rename_i b h'
    refine ⟨b, h', rfl, ?_⟩
    split at h
    · rename_i hd
      exact dec_spec hp hd
    · cases h
  · cases h

/-- A function that tells 'true' under each of some cases, of which one is there. -/
theorem calls_cases {gl : GL} {k f : Nat} {as : List AV} {us : Array Value} {pcs : List PC} {w : World} (hm : P.follows .mixedOrders = true) (hX : ∀ pc, HooksOK P ρ X pc) (hx : X.ext f = none)
    (h : pcs.all (fun pc => isT pc (run P X pc k f as (HG gl))) = true) (hp : ∃ pc ∈ pcs, PC.holds ρ pc) (hv : VRs ρ (muW w) as us.toList) (hg : HoldsG gl w) :
    Calls P f us w fun e w' => e = .returned (.bool true) ∧ w.keptBut w' (fun _ => False) := by
  obtain ⟨pc, h1, h2⟩ := hp
  obtain ⟨b, h', h3, h4⟩ := isT_spec h2 (List.all_eq_true.1 h pc h1)
  refine (run_sound (hX pc) h2 hm (RelW hg) hv hx h3).mono ?_
  rintro e w' ⟨x, μ', rfl, h5, _, S, _⟩
  rw [VR] at h5
  subst h5
  exact ⟨by rw [h4], S.kept fun id b h => HG_own h⟩

end
end Go.Ev

/- A number that any number says: the summary of linotypekit.Pick; no theorem of the program yet; no conditions. -/
namespace Go.Ev

def pickI (x n : Int) : Int := if x.tmod n < 0 then x.tmod n + n else x.tmod n

theorem pickI_range {x n : Int} (hn : 0 < n) : 0 ≤ pickI x n ∧ pickI x n < n := by
  unfold pickI
  have h1 := Int.tmod_lt_of_pos x hn
  have h2 : -n < x.tmod n := by
    have := Int.lt_tmod_of_pos x hn
    omega
  split <;> omega

/-- Told as 'function 0 of x and n'. -/
noncomputable def pickS : PC → List AV → H → Res (AV × H) := fun _ args h =>
  match args with
  | [.int .i64 e, .int .i64 (.lit (.ofNat n))] => bif Nat.ble 1 n && Nat.ble n 4611686018427387904 then .ok (.int .i64 (.app 0 (.cons e (.cons (.lit (.ofNat n)) .nil))), h) else .fail "Pick: n"
  | _ => .fail "Pick"

noncomputable def isV (v : AV) (r : Res (AV × H)) : Bool :=
  match r with
  | .ok (v', _) => v'.beq v
  | _ => false

theorem isV_spec {v : AV} {r : Res (AV × H)} (h : isV v r = true) : ∃ h', r = .ok (v, h') := by
  unfold isV at h
  split at h
  · rename_i v' h'
    exact ⟨h', by rw [AV.beq_eq h]⟩
  · cases h

section
variable {ρ ρ' : Env} {P : Program} {pc : PC} {X : Hooks}

theorem RelN {μ : Mu} {w : World} (hg : ∀ k, k < 64 → ∃ z, μ k = some (k, 0, z)) : Rel ρ (muG μ) H0.get H0.next w where
  blk := fun id b h => by cases (show (none : Option Blk) = some b from h)
  inj := fun i j b b' p q h => by cases (show (none : Option Blk) = some b from h)
  fresh := fun id p h => by
    unfold muG at h
    split at h
    · rename_i hk; exact hk
    · cases h
  glob := fun k hk => by
    obtain ⟨z, hz⟩ := hg k hk
    exact ⟨z, by unfold muG; rw [if_pos hk]; exact hz⟩

/-- What owned nothing and told nothing of new memory leaves all that was related. -/
theorem lift0 {μ μ1 : Mu} {g g1 : G} {nx : Nat} {w w' : World} (R : Rel ρ μ g nx w) (S : Stp (muG μ) H0.get H0.next w μ1 g1 w') : Rel ρ μ g nx w' ∧ Stp μ g nx w μ g w' := by
  have hk : ∀ b, b < w.heap.size → w'.heap[b]? = w.heap[b]? := fun b hb => S.frame b hb fun id bk p h _ => by cases (show (none : Option Blk) = some bk from h)
  refine ⟨⟨?_, R.inj, R.fresh, R.glob⟩, Mu.le_refl _, fun _ _ h => .inl h, fun id b h => .inl ⟨b, h⟩, S.size, S.tape, S.os, S.output, fun b hb _ => hk b hb, fun id bk p h h' => .inr ⟨id, bk, p, h, h', rfl, fun h => h⟩, S.fz⟩
  intro id b hb
  obtain ⟨p, o, h1, h2, h3⟩ := R.blk id b hb
  exact ⟨p, o, h1, by rw [hk _ (Array.getElem?_eq_some_iff.1 h2).1]; exact h2, h3⟩

theorem wrap_small {y : Int} (h1 : 0 ≤ y) (h2 : y < 4611686018427387904) : IntKind.i64.wrap y = y := by
  rw [IntKind.wrap_i64]
  omega

abbrev pickArgs : List AV := [.int .i64 (.var 0), .int .i64 (.var 1)]
abbrev pickLo : PC := [(.lt (.rem (.var 0) (.var 1)) (.lit 0), true), (.lt (.var 1) (.lit 1), false)]
abbrev pickHi : PC := [(.lt (.rem (.var 0) (.var 1)) (.lit 0), false), (.lt (.var 1) (.lit 1), false)]

theorem pick_ok {k f : Nat} (hm : P.follows .mixedOrders = true) (hX : ∀ ρ pc, HooksOK P ρ X pc) (hx : X.ext f = none) (hρ : ∀ x n, ρ.fn 0 [x, n] = pickI x n)
    (hfn : ∃ fn, P.funcs[f]? = some fn ∧ fn.body.isNone = false ∧ (fn.name == "runtime.NumGoroutine") = false)
    (h1 : isV (.int .i64 (.wrap .i64 (.add (.rem (.var 0) (.var 1)) (.var 1)))) (run P X pickLo k f pickArgs H0) = true)
    (h2 : isV (.int .i64 (.rem (.var 0) (.var 1))) (run P X pickHi k f pickArgs H0) = true) : FnOK P ρ (pickS pc) f := by
  intro args h v h' hr
  refine ⟨hfn, ?_⟩
  intro μ w us R hv
  unfold pickS at hr
  split at hr
  · rename_i e n
    rcases cond_eq hr with ⟨h3, h4⟩ | ⟨_, h4⟩
    · simp only [Bool.and_eq_true] at h3
      have hn1 : 1 ≤ n := by simpa using h3.1
      have hn2 : n ≤ 4611686018427387904 := by simpa using h3.2
      cases h4
      obtain ⟨h1', e1⟩ := isV_spec h1
      obtain ⟨h2', e2⟩ := isV_spec h2
      let ρ' : Env := ⟨fun i => if i = 0 then e.den ρ else n, fun _ _ => 0, fun _ _ => false⟩
      have hv' : VRs ρ' (muG μ) pickArgs us.toList := by
        simp only [VRs, VR] at hv ⊢
        exact hv
      have post : ∀ {v1 : AV} {hh : H}, (∀ μ' x, VR ρ' μ' v1 x → x = .int .i64 (pickI (e.den ρ) n)) → ∀ {pc'}, PC.holds ρ' pc' → run P X pc' k f pickArgs H0 = .ok (v1, hh) →
          CallsIn Fence.wide 0 P f us w (FnPost ρ μ h w (.int .i64 (.app 0 (.cons e (.cons (.lit (.ofNat n)) .nil)))) h) := by
        intro v1 hh hval pc' hp hrun
        refine callsIn_wide.2 ((run_sound (hX ρ' pc') hp hm (RelN R.glob) hv' hx hrun).mono ?_)
        rintro e' w' ⟨x, μ1, rfl, hx', _, S1, _⟩
        obtain ⟨R', S'⟩ := lift0 R S1
        refine ⟨x, μ, rfl, ?_, R', S', Nat.le_refl _⟩
        rw [hval μ1 x hx', VR]
        simp only [SE.den, SE.dens, hρ]
        rfl
      by_cases hneg : (e.den ρ).tmod n < 0
      · refine post ?_ (pc' := pickLo) ?_ e1
        · intro μ' x hx'
          rw [VR] at hx'
          rw [hx']
          have hr := pickI_range (x := e.den ρ) (n := n) (by omega)
          have : (SE.den ρ' (.wrap .i64 (.add (.rem (.var 0) (.var 1)) (.var 1)))) = IntKind.i64.wrap ((e.den ρ).tmod n + n) := by simp [SE.den, ρ']
          rw [this]
          unfold pickI at hr ⊢
          rw [if_pos hneg] at hr ⊢
          rw [wrap_small (by omega) (by omega)]
        · intro y hy
          simp only [List.mem_cons, List.mem_nil_iff, or_false] at hy
          rcases hy with rfl | rfl
          · simp [SB.den, SE.den, ρ', hneg]
          · simp [SB.den, SE.den, ρ']; omega
      · refine post ?_ (pc' := pickHi) ?_ e2
        · intro μ' x hx'
          rw [VR] at hx'
          rw [hx']
          unfold pickI
          rw [if_neg hneg]
          simp [SE.den, ρ']
        · intro y hy
          simp only [List.mem_cons, List.mem_nil_iff, or_false] at hy
          rcases hy with rfl | rfl
          · simp [SB.den, SE.den, ρ']; omega
          · simp [SB.den, SE.den, ρ']; omega
    · cases h4
  · cases hr

end
end Go.Ev

/- Functions that read the first three bytes of a slice of any length: summaries by cases; laws over a slice of bytes; no theorem of the program yet; no conditions. -/
namespace Go.Ev

/-! ### Values that are the same under a path's conditions -/
noncomputable def sameSE (pc : PC) (a b : SE) : Bool := isSome true (dec pc (.eq a b))
mutual
noncomputable def AV.same (pc : PC) : AV → AV → Bool
  | .int k a, .int l b => ikBeq k l && sameSE pc a b
  | .agg a, .agg b => avsSame pc a b
  | .tup a, .tup b => avsSame pc a b
  | _, _ => false
noncomputable def avsSame (pc : PC) : List AV → List AV → Bool
  | [], [] => true
  | a :: as, b :: bs => a.same pc b && avsSame pc as bs
  | _, _ => false
end

noncomputable def pcBeq : PC → PC → Bool
  | [], [] => true
  | (a, s) :: r, (b, t) :: q => (s == t) && (a.beq b && pcBeq r q)
  | _, _ => false

noncomputable def findPC (pc : PC) (h : H) : List (PC × AV) → Res (AV × H)
  | [] => .fail "a case that is not told"
  | (p, v) :: r => bif pcBeq p pc then .ok (v, h) else findPC pc h r

/-- A function of a slice of n bytes of which the first three are the variables 0, 1, 2; its value, by cases. -/
noncomputable def readS (n : Nat) (cs : List (PC × AV)) : PC → List AV → H → Res (AV × H) := fun pc args h =>
  match args with
  | [.slc id off m _ _ es] => bif Nat.beq m n && Nat.beq es 1 then
      (rd h id off 3).bind fun l => (match l with
        | [.int .u8 (.var 0), .int .u8 (.var 1), .int .u8 (.var 2)] => findPC pc h cs
        | _ => .fail "other bytes")
      else .fail "another length"
  | _ => .fail "no such slice"

noncomputable def H3 : H := ⟨65, T.put .nil 64 (.cells false true 5 3 (T.puts .nil 0 [.int .u8 (.var 0), .int .u8 (.var 1), .int .u8 (.var 2)]))⟩

noncomputable def chkRead (P : Program) (X : Hooks) (k f : Nat) (x : PC × AV) : Bool :=
  match run P X x.1 k f [.slv 64 0 3 (.var 3) 1] H3 with
  | .ok (v, _) => v.same x.1 x.2
  | _ => false

section
variable {ρ : Env} {P : Program} {pc : PC} {X : Hooks}

mutual
theorem AV.same_spec {μ μ' : Mu} (hp : pc.holds ρ) : ∀ {a b : AV} {v : Value}, a.same pc b = true → VR ρ μ a v → VR ρ μ' b v
  | .int k a, b, v, h, hv => by
    cases b <;> simp only [AV.same, Bool.and_eq_true] at h <;> first | (cases h; done) | skip
    rename_i l b
    rw [VR] at hv ⊢
    have h1 := dec_spec hp (isSome_eq h.2)
    simp only [SB.den, beq_iff_eq] at h1
    rw [hv, ikBeq_eq h.1, h1]
  | .agg a, b, v, h, hv => by
    cases b <;> simp only [AV.same] at h <;> first | (cases h; done) | skip
    rw [VR] at hv ⊢
    obtain ⟨ys, rfl, hv⟩ := hv
    exact ⟨ys, rfl, avsSame_spec hp h hv⟩
  | .tup a, b, v, h, hv => by
    cases b <;> simp only [AV.same] at h <;> first | (cases h; done) | skip
    rw [VR] at hv ⊢
    obtain ⟨ys, rfl, hv⟩ := hv
    exact ⟨ys, rfl, avsSame_spec hp h hv⟩
  | .bool _, _, _, h, _ => by simp [AV.same] at h
  | .str _ _, _, _, h, _ => by simp [AV.same] at h
  | .nilp, _, _, h, _ => by simp [AV.same] at h
  | .ptr _ _, _, _, h, _ => by simp [AV.same] at h
  | .nils, _, _, h, _ => by simp [AV.same] at h
  | .slc .., _, _, h, _ => by simp [AV.same] at h
  | .emp, _, _, h, _ => by simp [AV.same] at h
  | .slv .., _, _, h, _ => by simp [AV.same] at h
  | .ptrv .., _, _, h, _ => by simp [AV.same] at h
  | .pick _ _, _, _, h, _ => by simp [AV.same] at h
  | .nilm, _, _, h, _ => by simp [AV.same] at h
  | .map _, _, _, h, _ => by simp [AV.same] at h
  | .nilf, _, _, h, _ => by simp [AV.same] at h
  | .func _ _ _, _, _, h, _ => by simp [AV.same] at h
  | .nili, _, _, h, _ => by simp [AV.same] at h
  | .iface _ _, _, _, h, _ => by simp [AV.same] at h
theorem avsSame_spec {μ μ' : Mu} (hp : pc.holds ρ) : ∀ {a b : List AV} {v : List Value}, avsSame pc a b = true → VRs ρ μ a v → VRs ρ μ' b v
  | [], b, v, h, hv => by
    cases b <;> simp only [avsSame] at h <;> first | (cases h; done) | skip
    exact hv
  | a :: as, b, v, h, hv => by
    cases b <;> simp only [avsSame, Bool.and_eq_true] at h <;> first | (cases h; done) | skip
    rw [VRs_cons] at hv ⊢
    obtain ⟨y, r, rfl, h1, h2⟩ := hv
    exact ⟨y, r, rfl, AV.same_spec hp h.1 h1, avsSame_spec hp h.2 h2⟩
end

theorem pcBeq_eq : ∀ {a b : PC}, pcBeq a b = true → a = b
  | [], [], _ => rfl
  | [], _ :: _, h => by simp [pcBeq] at h
  | _ :: _, [], h => by simp [pcBeq] at h
  | (a, s) :: r, (b, t) :: q, h => by
    simp only [pcBeq, Bool.and_eq_true] at h
    rw [eq_of_beq h.1, SB.beq_eq h.2.1, pcBeq_eq h.2.2]

theorem findPC_mem {h h' : H} {v : AV} : ∀ {cs : List (PC × AV)}, findPC pc h cs = .ok (v, h') → (pc, v) ∈ cs ∧ h' = h
  | [], h => by cases h
  | (p, u) :: r, hr => by
    unfold findPC at hr
    rcases cond_eq hr with ⟨h1, h2⟩ | ⟨_, h2⟩
    · cases h2; rw [pcBeq_eq h1]; exact ⟨List.mem_cons_self, rfl⟩
    · obtain ⟨h3, h4⟩ := findPC_mem h2; exact ⟨List.mem_cons_of_mem _ h3, h4⟩

/-- What owned nothing, and told nothing of new memory, leaves all that was related. -/
theorem lift1 {μ μ0 μ1 : Mu} {g g0 g1 : G} {nx nx0 : Nat} {w w' : World} (R : Rel ρ μ g nx w) (S : Stp μ0 g0 nx0 w μ1 g1 w') (hg : ∀ id b, g0 id = some b → b.own = false) : Rel ρ μ g nx w' ∧ Stp μ g nx w μ g w' := by
  have hk : ∀ b, b < w.heap.size → w'.heap[b]? = w.heap[b]? := fun b hb => S.frame b hb fun id bk p h ho => by rw [hg id bk h] at ho; cases ho
  refine ⟨⟨?_, R.inj, R.fresh, R.glob⟩, Mu.le_refl _, fun _ _ h => .inl h, fun id b h => .inl ⟨b, h⟩, S.size, S.tape, S.os, S.output, fun b hb _ => hk b hb, fun id bk p h h' => .inr ⟨id, bk, p, h, h', rfl, fun h => h⟩, S.fz⟩
  intro id b hb
  obtain ⟨p, o, h1, h2, h3⟩ := R.blk id b hb
  exact ⟨p, o, h1, by rw [hk _ (Array.getElem?_eq_some_iff.1 h2).1]; exact h2, h3⟩

theorem H3_get {id : Nat} {b : Blk} (h : H3.get id = some b) : id = 64 ∧ b = .cells false true 5 3 (T.puts .nil 0 [.int .u8 (.var 0), .int .u8 (.var 1), .int .u8 (.var 2)]) := by
  have h' : ((T.nil : T Blk).put 64 (.cells false true 5 3 (T.puts .nil 0 [.int .u8 (.var 0), .int .u8 (.var 1), .int .u8 (.var 2)]))).get id = some b := h
  rw [T.get_put] at h'
  split at h'
  · rename_i q; cases h'; exact ⟨q, rfl⟩
  · rw [T.get_nil] at h'; cases h'

theorem readS_ok {k f n : Nat} {cs : List (PC × AV)} (hp : pc.holds ρ) (hn : ρ.v 3 = n) (h3 : 3 ≤ n) (hm : P.follows .mixedOrders = true) (hX : ∀ pc, HooksOK P ρ X pc) (hx : X.ext f = none)
    (hfn : ∃ fn, P.funcs[f]? = some fn ∧ fn.body.isNone = false ∧ (fn.name == "runtime.NumGoroutine") = false)
    (hcs : cs.all (chkRead P X k f) = true) : FnOK P ρ (readS n cs pc) f := by
  intro args h v h' hr
  refine ⟨hfn, ?_⟩
  intro μ w us R hv
  unfold readS at hr
  split at hr
  · rename_i id off m ex cap es
    rcases cond_eq hr with ⟨g1, g2⟩ | ⟨_, g2⟩
    · simp only [Bool.and_eq_true] at g1
      have hmn := beq_eq g1.1
      have hes := beq_eq g1.2
      subst hmn; subst hes
      obtain ⟨l, g3, g4⟩ := Res.bind_eq_ok g2
      split at g4
      · obtain ⟨g5, rfl⟩ := findPC_mem g4
        obtain ⟨p, xs, c, e, fr, hp1, ho, hsz, hfit, hxs, hxl, hc⟩ := rd_spec R (fun b h => h) g3
        rw [VRs_cons] at hv
        obtain ⟨y, r, e1, q1, q2⟩ := hv
        rw [VRs_nil] at q2
        subst q2
        rw [VR] at q1
        obtain ⟨p', cp, hp2, rfl, _, q3, q4, q5⟩ := q1
        rw [hp1] at hp2
        cases hp2
        have hck := List.all_eq_true.1 hcs _ g5
        unfold chkRead at hck
        split at hck
        · rename_i v1 hh1 hrun
          let μ3 : Mu := fun k => if k = 64 then some (p.1, p.2.1 + off, p.2.2) else muG μ k
          have R3 : Rel ρ μ3 H3.get H3.next w := by
            refine ⟨?_, ?_, ?_, ?_⟩
            · intro id' b hb
              obtain ⟨rfl, rfl⟩ := H3_get hb
              refine ⟨(p.1, p.2.1 + off, p.2.2), _, by simp [μ3], ho, c, e, fr, rfl, hsz, hfit, (fun h => by cases h), ?_⟩
              intro j u hj hu
              have hu' := puts_get hu
              have key : ∀ (l : List AV) (xs : List Value), VRs ρ μ l xs → (∀ u ∈ l, ∀ x, VR ρ μ u x → VR ρ μ3 u x) → ∀ (j : Nat) (u : AV), l[j]? = some u → ∃ x : Value, xs[j]? = some x ∧ VR ρ μ3 u x := by
                intro l
                induction l with
                | nil => intro xs _ _ j u h; simp at h
                | cons a l ih =>
                  intro xs hv hall j u h
                  rw [VRs_cons] at hv
                  obtain ⟨y, r, rfl, h1, h2⟩ := hv
                  cases j with
                  | zero => simp at h; subst h; exact ⟨y, rfl, hall _ List.mem_cons_self _ h1⟩
                  | succ j => simp at h; obtain ⟨x, h3, h4⟩ := ih r h2 (fun u hu => hall u (List.mem_cons_of_mem _ hu)) j u h; exact ⟨x, by simpa using h3, h4⟩
              obtain ⟨x, z1, z2⟩ := key _ _ hxs (by
                intro u hu x hx
                simp only [List.mem_cons, List.mem_nil_iff, or_false] at hu
                rcases hu with rfl | rfl | rfl <;> (rw [VR] at hx ⊢; exact hx)) j u hu'
              exact ⟨x, hc j x z1, z2⟩
            · intro i j b b' q q' hi hj hb
              obtain ⟨rfl, rfl⟩ := H3_get hi
              cases hb
            · intro id' q hq
              show id' < 65
              simp only [μ3] at hq
              split at hq
              · omega
              · unfold muG at hq
                split at hq
                · omega
                · cases hq
            · intro k hk
              obtain ⟨z, hz⟩ := R.glob k hk
              exact ⟨z, by simp only [μ3]; rw [if_neg (by omega)]; unfold muG; rw [if_pos hk]; exact hz⟩
          have hv3 : VRs ρ μ3 [.slv 64 0 3 (.var 3) 1] us.toList := by
            rw [VRs_cons]
            refine ⟨_, _, e1, ?_, VRs_nil.2 rfl⟩
            rw [VR]
            exact ⟨(p.1, p.2.1 + off, p.2.2), cp, _, by simp, by simp [μ3], by simp [SE.den, hn], h3, Nat.le_trans q4 q3, by simpa using q5⟩
          refine callsIn_wide.2 ((run_sound (hX pc) hp hm R3 hv3 hx hrun).mono ?_)
          rintro e' w' ⟨x, μ1, rfl, hx', _, S1, _⟩
          obtain ⟨R', S'⟩ := lift1 R S1 (fun id b h => by obtain ⟨_, rfl⟩ := H3_get h; rfl)
          exact ⟨x, μ, rfl, AV.same_spec hp hck hx', R', S', Nat.le_refl _⟩
        · cases hck
      · cases g4
    · cases g2
  · cases hr

/-- A function that tells 'true' under each of some cases, of which one is there; from any memory of which nothing is owned. -/
theorem calls_casesH {h0 : H} {μ0 : Mu} {k f : Nat} {as : List AV} {us : Array Value} {pcs : List PC} {w : World} (hm : P.follows .mixedOrders = true) (hX : ∀ pc, pc.holds ρ → HooksOK P ρ X pc) (hx : X.ext f = none)
    (h : pcs.all (fun pc => isT pc (run P X pc k f as h0)) = true) (hp : ∃ pc ∈ pcs, PC.holds ρ pc) (R : Rel ρ μ0 h0.get h0.next w) (hg : ∀ id b, h0.get id = some b → b.own = false) (hv : VRs ρ μ0 as us.toList) :
    Calls P f us w fun e w' => e = .returned (.bool true) ∧ Go.RowKit.Below w.heap.size w w' := by
  obtain ⟨pc, h1, h2⟩ := hp
  obtain ⟨b, h', h3, h4⟩ := isT_spec h2 (List.all_eq_true.1 h pc h1)
  refine (run_sound (hX pc h2) h2 hm R hv hx h3).mono ?_
  rintro e w' ⟨x, μ', rfl, h5, _, S, _⟩
  rw [VR] at h5
  subst h5
  exact ⟨by rw [h4], S.os, S.tape, S.output, S.size, fun k hk => S.frame k hk fun id bk p h ho => by rw [hg id bk h] at ho; cases ho⟩

end
end Go.Ev

/- Methods of values behind interfaces; no theorem of the program yet; no conditions. -/
namespace Go.Ev

noncomputable def isPtrD : TypeDesc → Bool
  | .pointer _ => true
  | _ => false

/-- The method of a type, if it is the type's own, of a value. -/
noncomputable def mthOf (P : Program) (t : Nat) (name : String) : Option Nat :=
  match P.info? t with
  | none => none
  | some i =>
    match i.methods.find? (·.name == name) with
    | none => none
    | some m =>
      match m.path.toList, m.func, P.underlying t with
      | [], some (f, false), some d => bif isPtrD d then none else some f
      | _, _, _ => none

section
variable {ρ : Env} {P : Program} {pc : PC} {X : Hooks}

theorem mthOf_ok {t : Nat} {name : String} {f n : Nat} (h : mthOf P t name = some f) (v : Value) (w : World) : (method (n + 1) t v name).run P w = .ok (f, v) w := by
  unfold mthOf at h
  split at h
  · cases h
  · rename_i i hi
    split at h
    · cases h
    · rename_i m hm
      split at h
      · rename_i f' d hp hf hu
        rcases cond_eq h with ⟨_, h⟩ | ⟨h1, h⟩
        · cases h
        · cases h
          have hr : (receiverAt t (.val v) false (if m.path.isEmpty then some ((name.splitOn ".").getLastD name) else none)).run P w = .ok v w := by
            unfold receiverAt
            simp only [Sem.run_bind, run_underlying hu, Result.andThen_ok]
            cases d <;> first | (simp [isPtrD] at h1; done) | simp [Place.get]
          have ht : (typeInfo t).run P w = .ok i w := by
            unfold typeInfo
            simp [hi, program, Sem.run]
          unfold method
          simp only [Sem.run_bind, ht, Result.andThen_ok, hm, hp, follow, Sem.run_pure, hf, hr]
      · cases h

/-- Hooks: the one function without a body, and methods. -/
noncomputable def XM (P : Program) (e : Nat) : Hooks := ⟨fun _ => none, extX e, mthOf P⟩

theorem XM_ok {e : Nat} (h : HooksOK P ρ (XE e) pc) : HooksOK P ρ (XM P e) pc :=
  ⟨h.sum, h.ext, fun t name f hm v w => by
    have : ∃ n, P.types.size + Made.depth = n + 1 := ⟨P.types.size + Made.depth - 1, by
      have : 0 < Made.depth := by decide
      omega⟩
    obtain ⟨n, hn⟩ := this
    rw [hn]
    exact mthOf_ok hm v w⟩

end
end Go.Ev

/- Summaries of functions that only read what their arguments lead to; no theorem of the program yet; no conditions. -/
namespace Go.Ev

noncomputable def renF (s : Nat → Nat) : Fn → Fn
  | .yield l => .yield (s l)
  | f => f
mutual
noncomputable def AV.ren (s : Nat → Nat) : AV → AV
  | .ptr id off => .ptr (s id) off
  | .slc id off len ex cap es => .slc (s id) off len ex cap es
  | .slv id off n l es => .slv (s id) off n l es
  | .ptrv id off es n e => .ptrv (s id) off es n e
  | .pick cs e => .pick (avsRen s cs) e
  | .map id => .map (s id)
  | .func f a b => .func (renF s f) (avsRen s a) (avsRen s b)
  | .iface t v => .iface t (v.ren s)
  | .agg cs => .agg (avsRen s cs)
  | .tup vs => .tup (avsRen s vs)
  | v => v
noncomputable def avsRen (s : Nat → Nat) : List AV → List AV
  | [] => []
  | a :: as => a.ren s :: avsRen s as
end

noncomputable def addId (l : List Nat) (id : Nat) : List Nat := bif Nat.blt id 64 || has l id then l else l ++ [id]
mutual
noncomputable def AV.idsA : AV → List Nat → List Nat
  | .ptr id _, l => addId l id
  | .slc id _ _ _ _ _, l => addId l id
  | .ptrv id _ _ _ _, l => addId l id
  | .pick cs _, l => avsIds cs l
  | .iface _ v, l => v.idsA l
  | .agg cs, l => avsIds cs l
  | .tup vs, l => avsIds vs l
  | _, l => l
noncomputable def avsIds : List AV → List Nat → List Nat
  | [], l => l
  | a :: as, l => avsIds as (a.idsA l)
end

/-- The numbers 64, 65 .. of a summary stand for these. -/
noncomputable def sig (ids : List Nat) (nx k : Nat) : Nat :=
  bif Nat.blt k 64 then k else match nth ids (k - 64) with
    | some i => i
    | none => nx + k

abbrev QEnt := List AV × GL × AV
noncomputable def HQ (gl bl : GL) : H := ⟨64 + bl.length, layG (gl ++ bl)⟩

noncomputable def sameCells (h : H) (s : Nat → Nat) (x : Nat × Nat × List AV) : Bool :=
  match rd h (s x.1) 0 x.2.2.length with
  | .ok cs => avsBeq cs (avsRen s x.2.2)
  | _ => false

noncomputable def qOne (gl : GL) (e : QEnt) : PC → List AV → H → Res (AV × H) := fun _ args h =>
  bif avsBeq args (avsRen (sig (avsIds args []) h.next) e.1) && (Nat.beq (avsIds args []).length e.2.1.length && (e.2.1.all (sameCells h (sig (avsIds args []) h.next)) && hasG gl h)) then .ok (e.2.2, h) else .fail "a summary of other arguments"

noncomputable def qTab (gl : GL) : List QEnt → PC → List AV → H → Res (AV × H)
  | [] => sumNo
  | e :: r => sumOr (qOne gl e) (qTab gl r)

noncomputable def chkQ (gl : GL) (X : Hooks) (P : Program) (k f : Nat) (e : QEnt) : Bool :=
  e.2.2.low && (match run P X [] k f e.1 (HQ gl e.2.1) with
    | .ok (v, _) => v.beq e.2.2
    | _ => false)

section
variable {ρ : Env} {μ : Mu} {s : Nat → Nat}

theorem fnR_ren {f g : Fn} (h : fnR μ (renF s f) g) : fnR (fun k => μ (s k)) f g := by
  cases f <;> exact h

mutual
theorem VR_ren : ∀ {a : AV} {v : Value}, VR ρ μ (a.ren s) v → VR ρ (fun k => μ (s k)) a v
  | .int _ _, _, hv => by simp only [AV.ren, VR] at hv ⊢; exact hv
  | .bool _, _, hv => by simp only [AV.ren, VR] at hv ⊢; exact hv
  | .str _ _, _, hv => by simp only [AV.ren, VR] at hv ⊢; exact hv
  | .nilp, _, hv => by simp only [AV.ren, VR] at hv ⊢; exact hv
  | .ptr _ _, _, hv => by simp only [AV.ren, VR] at hv ⊢; exact hv
  | .nils, _, hv => by simp only [AV.ren, VR] at hv ⊢; exact hv
  | .slc .., _, hv => by simp only [AV.ren, VR] at hv ⊢; exact hv
  | .emp, _, hv => by simp only [AV.ren, VR] at hv ⊢; exact hv
  | .slv .., _, hv => by simp only [AV.ren, VR] at hv ⊢; exact hv
  | .ptrv .., _, hv => by simp only [AV.ren, VR] at hv ⊢; exact hv
  | .pick _ _, _, hv => by
    simp only [AV.ren, VR] at hv ⊢
    obtain ⟨j, h1, h2, h3⟩ := hv
    exact ⟨j, h1, VRn_ren h2, h3⟩
  | .nilm, _, hv => by simp only [AV.ren, VR] at hv ⊢; exact hv
  | .map _, _, hv => by simp only [AV.ren, VR] at hv ⊢; exact hv
  | .nilf, _, hv => by simp only [AV.ren, VR] at hv ⊢; exact hv
  | .func _ _ _, _, hv => by
    simp only [AV.ren, VR] at hv ⊢
    obtain ⟨f, a, b, h1, h2, h3, h4⟩ := hv
    exact ⟨f, a, b, h1, fnR_ren h2, VRs_ren h3, VRs_ren h4⟩
  | .nili, _, hv => by simp only [AV.ren, VR] at hv ⊢; exact hv
  | .iface _ _, _, hv => by
    simp only [AV.ren, VR] at hv ⊢
    obtain ⟨y, h1, h2⟩ := hv
    exact ⟨y, h1, VR_ren h2⟩
  | .agg _, _, hv => by
    simp only [AV.ren, VR] at hv ⊢
    obtain ⟨ys, h1, h2⟩ := hv
    exact ⟨ys, h1, VRs_ren h2⟩
  | .tup _, _, hv => by
    simp only [AV.ren, VR] at hv ⊢
    obtain ⟨ys, h1, h2⟩ := hv
    exact ⟨ys, h1, VRs_ren h2⟩
theorem VRs_ren : ∀ {as : List AV} {vs : List Value}, VRs ρ μ (avsRen s as) vs → VRs ρ (fun k => μ (s k)) as vs
  | [], _, hv => by simp only [avsRen, VRs] at hv ⊢; exact hv
  | _ :: _, _, hv => by
    simp only [avsRen, VRs] at hv ⊢
    obtain ⟨y, r, h1, h2, h3⟩ := hv
    exact ⟨y, r, h1, VR_ren h2, VRs_ren h3⟩
theorem VRn_ren : ∀ {as : List AV} {j : Nat} {v : Value}, VRn ρ μ (avsRen s as) j v → VRn ρ (fun k => μ (s k)) as j v
  | [], _, _, hv => by simp only [avsRen, VRn] at hv
  | _ :: _, 0, _, hv => by simp only [avsRen, VRn] at hv ⊢; exact VR_ren hv
  | _ :: as, j + 1, _, hv => by simp only [avsRen, VRn] at hv ⊢; exact VRn_ren (as := as) (j := j) hv
end
end

section
variable {ρ : Env} {P : Program} {pc : PC} {X : Hooks}

theorem VRs_nth {μ : Mu} : ∀ {l : List AV} {xs : List Value} {j : Nat} {u : AV}, VRs ρ μ l xs → l[j]? = some u → ∃ x, xs[j]? = some x ∧ VR ρ μ u x
  | [], _, _, _, _, h => by simp at h
  | a :: l, xs, j, u, hv, h => by
    rw [VRs_cons] at hv
    obtain ⟨y, r, rfl, h1, h2⟩ := hv
    cases j with
    | zero => simp at h; subst h; exact ⟨y, rfl, h1⟩
    | succ j => simp at h; obtain ⟨x, h3, h4⟩ := VRs_nth h2 h; exact ⟨x, by simpa using h3, h4⟩

theorem low_mem : ∀ {l : List AV} {v : AV}, avsLow l = true → v ∈ l → v.low = true
  | [], _, _, h => by cases h
  | a :: l, v, h1, h2 => by
    simp only [avsLow, Bool.and_eq_true] at h1
    rcases List.mem_cons.1 h2 with rfl | h2
    · exact h1.1
    · exact low_mem h1.2 h2

theorem layG_get : ∀ {bl : GL} {id : Nat} {b : Blk}, (layG bl).get id = some b → ∃ e cs, (id, e, cs) ∈ bl ∧ b = glBlk e cs := by
  intro bl id b h
  exact HG_get (gl := bl) (id := id) (b := b) h

theorem qOne_ok {gl : GL} {e : QEnt} {k f : Nat} (hgl : glOK gl = true) (xOK : HooksOK P ρ X []) (hx : X.ext f = none) (hm : P.follows .mixedOrders = true)
    (hfn : ∃ fn, P.funcs[f]? = some fn ∧ fn.body.isNone = false ∧ (fn.name == "runtime.NumGoroutine") = false) (h : chkQ gl X P k f e = true) : FnOK P ρ (qOne gl e pc) f := by
  obtain ⟨as, bl, v0⟩ := e
  intro args hh v h' hr
  refine ⟨hfn, ?_⟩
  intro μ w us R hv
  unfold qOne at hr
  rcases cond_eq hr with ⟨g1, g2⟩ | ⟨_, g2⟩
  · cases g2
    simp only [Bool.and_eq_true] at g1
    obtain ⟨g1, g3, g4, g5⟩ := g1
    have g1 := avsBeq_eq g1
    have g3 := beq_eq g3
    unfold chkQ at h
    simp only [Bool.and_eq_true] at h
    obtain ⟨hlow, h⟩ := h
    split at h
    · rename_i v1 hh1 hrun
      have hv1 : v1 = v0 := AV.beq_eq h
      subst hv1
      clear hr
      generalize hids : avsIds args [] = ids at g1 g3 g4
      have sig64 : ∀ k, k < 64 → sig ids hh.next k = k := by
        intro k hk
        unfold sig
        have : Nat.blt k 64 = true := by simpa using hk
        rw [this]; rfl
      have RQ : Rel ρ (fun k => μ (sig ids hh.next k)) (HQ gl bl).get (HQ gl bl).next w := by
        refine ⟨?_, ?_, ?_, ?_⟩
        · intro id b hb
          obtain ⟨ety, cs, h1, rfl⟩ := layG_get hb
          rcases List.mem_append.1 h1 with h1 | h1
          · have h2 := blkSame_eq (List.all_eq_true.1 g5 _ h1)
            have h3 := List.all_eq_true.1 hgl _ h1
            simp only [Bool.and_eq_true] at h3
            have hid : id < 64 := by simpa using h3.1
            obtain ⟨p, o, q1, q2, c, e, fr, rfl, f1, f2, f3, f4⟩ := R.blk _ _ h2
            refine ⟨p, _, by show μ (sig ids hh.next id) = _; rw [sig64 id hid]; exact q1, q2, c, e, fr, rfl, f1, f2, (fun h => by cases h), ?_⟩
            intro j u hj hu
            obtain ⟨x, z1, z2⟩ := f4 j u hj hu
            refine ⟨x, z1, VR_mono (μ := muG μ) ?_ (VR_low ?_ z2)⟩
            · intro k p hp
              unfold muG at hp
              split at hp
              · rename_i hk; show μ (sig ids hh.next k) = _; rw [sig64 k hk]; exact hp
              · cases hp
            · exact low_mem h3.2 (List.mem_of_getElem? (puts_get hu))
          have h2 := List.all_eq_true.1 g4 _ h1
          unfold sameCells at h2
          split at h2
          · rename_i cs' hrd
            have h2 := avsBeq_eq h2
            subst h2
            obtain ⟨p, xs, c, e, fr, q1, q2, q3, q4, q5, q6, q7⟩ := rd_spec R (fun b h => h) hrd
            refine ⟨p, _, q1, q2, c, e, fr, rfl, q3, by simpa using q4, (fun h => by cases h), ?_⟩
            intro j u hj hu
            obtain ⟨x, z1, z2⟩ := VRs_nth (VRs_ren q5) (puts_get hu)
            exact ⟨x, by simpa using q7 j x z1, z2⟩
          · cases h2
        · intro i j b b' p q hi hj hb
          obtain ⟨_, _, _, rfl⟩ := layG_get hi
          cases hb
        · intro id p hp
          show id < 64 + bl.length
          rcases Nat.lt_or_ge id (64 + bl.length) with h1 | h1
          · exact h1
          · exfalso
            have h2 : sig ids hh.next id = hh.next + id := by
              unfold sig
              have : Nat.blt id 64 = false := by
                cases hb : Nat.blt id 64 with
                | false => rfl
                | true => have : id < 64 := by simpa using hb
                          omega
              rw [this]
              have hn : nth ids (id - 64) = none := by
                rw [nth_eq]
                exact List.getElem?_eq_none (by omega)
              simp only [cond_false, hn]
            have hp' : μ (sig ids hh.next id) = some p := hp
            rw [h2] at hp'
            have := R.fresh _ _ hp'
            omega
        · intro k hk
          obtain ⟨z, hz⟩ := R.glob k hk
          exact ⟨z, by show μ (sig ids hh.next k) = _; rw [sig64 k hk]; exact hz⟩
      have hvq : VRs ρ (fun k => μ (sig ids hh.next k)) as us.toList := VRs_ren (by rw [← g1]; exact hv)
      refine callsIn_wide.2 ((run_sound xOK PC.holds_nil hm RQ hvq hx hrun).mono ?_)
      rintro e' w' ⟨x, μ1, rfl, hx', _, S1, _⟩
      obtain ⟨R', S'⟩ := lift1 R S1 (fun id b h => by obtain ⟨_, _, _, rfl⟩ := layG_get h; rfl)
      refine ⟨x, μ, rfl, ?_, R', S', Nat.le_refl _⟩
      refine VR_mono (μ := muG μ1) ?_ (VR_low hlow hx')
      intro id p hp
      unfold muG at hp
      split at hp
      · rename_i hk
        obtain ⟨z, hz⟩ := R.glob id hk
        have h1 : (fun k => μ (sig ids hh.next k)) id = some (id, 0, z) := by show μ (sig ids hh.next id) = _; rw [sig64 id hk]; exact hz
        have h2 := S1.le _ _ h1
        rw [h2] at hp
        cases hp
        exact hz
      · cases hp
    · cases h
  · cases g2

theorem qTab_ok {gl : GL} {f k : Nat} (hgl : glOK gl = true) (xOK : HooksOK P ρ X []) (hx : X.ext f = none) (hm : P.follows .mixedOrders = true)
    (hfn : ∃ fn, P.funcs[f]? = some fn ∧ fn.body.isNone = false ∧ (fn.name == "runtime.NumGoroutine") = false) :
    ∀ {l : List QEnt}, l.all (chkQ gl X P k f) = true → FnOK P ρ (qTab gl l pc) f
  | [], _ => sumNo_ok
  | e :: r, h => by
    simp only [List.all_cons, Bool.and_eq_true] at h
    exact sumOr_ok (qOne_ok hgl xOK hx hm hfn h.1) (qTab_ok hgl xOK hx hm hfn h.2)

end
end Go.Ev

/- Summaries of functions that read what their arguments lead to, and hand back new memory; no theorem of the program yet; no conditions. -/
namespace Go.Ev

/-- An entry: arguments, the blocks that they lead to, the result, the next number, the new blocks. -/
abbrev REnt := List AV × GL × AV × Nat × List SBlk

noncomputable def tau (ids : List Nat) (nx b k : Nat) : Nat := bif Nat.blt k b then sig ids nx k else nx + (k - b)

noncomputable def layR (s : Nat → Nat) (t : T Blk) : List SBlk → T Blk
  | [] => t
  | (id, opn, e, cs) :: l => layR s (t.put (s id) (.cells true opn e cs.length (T.puts .nil 0 (avsRen s cs)))) l

noncomputable def rRes (ids : List Nat) (h : H) (b : Nat) (v : AV) (nx : Nat) (l : List SBlk) : AV × H :=
  (v.ren (tau ids h.next b), ⟨h.next + (nx - b), layR (tau ids h.next b) h.tr l⟩)

noncomputable def rOne (gl : GL) (e : REnt) : PC → List AV → H → Res (AV × H) := fun _ args h =>
  bif avsBeq args (avsRen (sig (avsIds args []) h.next) e.1) && (Nat.beq (avsIds args []).length e.2.1.length && (e.2.1.all (sameCells h (sig (avsIds args []) h.next)) && hasG gl h))
  then .ok (rRes (avsIds args []) h (64 + e.2.1.length) e.2.2.1 e.2.2.2.1 e.2.2.2.2) else .fail "a summary of other arguments"

noncomputable def rTab (gl : GL) : List REnt → PC → List AV → H → Res (AV × H)
  | [] => sumNo
  | e :: r => sumOr (rOne gl e) (rTab gl r)

noncomputable def chkR (gl : GL) (X : Hooks) (P : Program) (k f : Nat) (e : REnt) : Bool :=
  match run P X [] k f e.1 (HQ gl e.2.1) with
  | .ok (v, h) => v.beq e.2.2.1 && (Nat.ble h.next e.2.2.2.1 && e.2.2.2.2.all fun x => Nat.ble (64 + e.2.1.length) x.1 && chkBlk h x)
  | _ => false

section
variable {ρ : Env} {μ1 μ' : Mu} {s : Nat → Nat}

theorem fnR_to (h : ∀ id p, μ1 id = some p → μ' (s id) = some p) {f g : Fn} (hf : fnR μ1 f g) : fnR μ' (renF s f) g := by
  cases f <;> simp only [fnR, renF] at hf ⊢ <;> first
    | exact hf
    | (obtain ⟨p, h1, h2⟩ := hf; exact ⟨p, h _ _ h1, h2⟩)

mutual
theorem VR_to (h : ∀ id p, μ1 id = some p → μ' (s id) = some p) : ∀ {a : AV} {v : Value}, VR ρ μ1 a v → VR ρ μ' (a.ren s) v
  | .int _ _, _, hv => by simp only [AV.ren, VR] at hv ⊢; exact hv
  | .bool _, _, hv => by simp only [AV.ren, VR] at hv ⊢; exact hv
  | .str _ _, _, hv => by simp only [AV.ren, VR] at hv ⊢; exact hv
  | .nilp, _, hv => by simp only [AV.ren, VR] at hv ⊢; exact hv
  | .ptr _ _, _, hv => by
    simp only [AV.ren, VR] at hv ⊢
    obtain ⟨p, h1, h2⟩ := hv
    exact ⟨p, h _ _ h1, h2⟩
  | .nils, _, hv => by simp only [AV.ren, VR] at hv ⊢; exact hv
  | .slc .., _, hv => by
    simp only [AV.ren, VR] at hv ⊢
    obtain ⟨p, c, h1, h2⟩ := hv
    exact ⟨p, c, h _ _ h1, h2⟩
  | .emp, _, hv => by simp only [AV.ren, VR] at hv ⊢; exact hv
  | .slv .., _, hv => by
    simp only [AV.ren, VR] at hv ⊢
    obtain ⟨p, c, m, h0, h1, h2⟩ := hv
    exact ⟨p, c, m, h0, h _ _ h1, h2⟩
  | .ptrv .., _, hv => by
    simp only [AV.ren, VR] at hv ⊢
    obtain ⟨p, j, h1, h2⟩ := hv
    exact ⟨p, j, h _ _ h1, h2⟩
  | .pick _ _, _, hv => by
    simp only [AV.ren, VR] at hv ⊢
    obtain ⟨j, h1, h2, h3⟩ := hv
    exact ⟨j, h1, VRn_to h h2, h3⟩
  | .nilm, _, hv => by simp only [AV.ren, VR] at hv ⊢; exact hv
  | .map _, _, hv => by
    simp only [AV.ren, VR] at hv ⊢
    obtain ⟨p, h1, h2⟩ := hv
    exact ⟨p, h _ _ h1, h2⟩
  | .nilf, _, hv => by simp only [AV.ren, VR] at hv ⊢; exact hv
  | .func _ _ _, _, hv => by
    simp only [AV.ren, VR] at hv ⊢
    obtain ⟨f, a, b, h1, h2, h3, h4⟩ := hv
    exact ⟨f, a, b, h1, fnR_to h h2, VRs_to h h3, VRs_to h h4⟩
  | .nili, _, hv => by simp only [AV.ren, VR] at hv ⊢; exact hv
  | .iface _ _, _, hv => by
    simp only [AV.ren, VR] at hv ⊢
    obtain ⟨y, h1, h2⟩ := hv
    exact ⟨y, h1, VR_to h h2⟩
  | .agg _, _, hv => by
    simp only [AV.ren, VR] at hv ⊢
    obtain ⟨ys, h1, h2⟩ := hv
    exact ⟨ys, h1, VRs_to h h2⟩
  | .tup _, _, hv => by
    simp only [AV.ren, VR] at hv ⊢
    obtain ⟨ys, h1, h2⟩ := hv
    exact ⟨ys, h1, VRs_to h h2⟩
theorem VRs_to (h : ∀ id p, μ1 id = some p → μ' (s id) = some p) : ∀ {as : List AV} {vs : List Value}, VRs ρ μ1 as vs → VRs ρ μ' (avsRen s as) vs
  | [], _, hv => by simp only [avsRen, VRs] at hv ⊢; exact hv
  | _ :: _, _, hv => by
    simp only [avsRen, VRs] at hv ⊢
    obtain ⟨y, r, h1, h2, h3⟩ := hv
    exact ⟨y, r, h1, VR_to h h2, VRs_to h h3⟩
theorem VRn_to (h : ∀ id p, μ1 id = some p → μ' (s id) = some p) : ∀ {as : List AV} {j : Nat} {v : Value}, VRn ρ μ1 as j v → VRn ρ μ' (avsRen s as) j v
  | [], _, _, hv => by simp only [VRn] at hv
  | _ :: _, 0, _, hv => by simp only [avsRen, VRn] at hv ⊢; exact VR_to h hv
  | _ :: as, j + 1, _, hv => by simp only [avsRen, VRn] at hv ⊢; exact VRn_to (as := as) (j := j) h hv
end

theorem layR_get : ∀ {l : List SBlk} {t : T Blk} {j : Nat} {b : Blk}, (layR s t l).get j = some b →
    t.get j = some b ∨ ∃ id opn e cs, (id, opn, e, cs) ∈ l ∧ j = s id ∧ b = .cells true opn e cs.length (T.puts .nil 0 (avsRen s cs)) := by
  intro l
  induction l with
  | nil => intro t j b h; exact .inl h
  | cons x l ih =>
    obtain ⟨id, opn, e, cs⟩ := x
    intro t j b h
    rcases ih h with h | ⟨id', opn', e', cs', h1, h2, h3⟩
    · rw [T.get_put] at h
      split at h
      · rename_i ej; cases h; exact .inr ⟨id, opn, e, cs, List.mem_cons_self, ej, rfl⟩
      · exact .inl h
    · exact .inr ⟨id', opn', e', cs', List.mem_cons_of_mem _ h1, h2, h3⟩

theorem avsRen_get : ∀ {cs : List AV} {j : Nat} {v : AV}, (avsRen s cs)[j]? = some v → ∃ u, cs[j]? = some u ∧ v = u.ren s := by
  intro cs
  induction cs with
  | nil => intro j v h; simp [avsRen] at h
  | cons c cs ih =>
    intro j v h
    cases j with
    | zero => simp [avsRen] at h; exact ⟨c, rfl, h.symm⟩
    | succ j => simp [avsRen] at h; obtain ⟨u, h1, h2⟩ := ih h; exact ⟨u, by simpa using h1, h2⟩

theorem chkBlk_ren {h1 : H} {g : G} {nx : Nat} {w : World} (R : Rel ρ μ1 g nx w) (hg : ∀ id b, h1.get id = some b → g id = some b) (hsh : ∀ id p, μ1 id = some p → μ' (s id) = some p) {id : Nat} {opn : Bool} {e : Nat} {cs : List AV}
    (h : chkBlk h1 (id, opn, e, cs) = true) : ∃ b p o, g id = some b ∧ μ1 id = some p ∧ w.heap[p.1]? = some o ∧ BR ρ μ' p (.cells true opn e cs.length (T.puts .nil 0 (avsRen s cs))) o := by
  unfold chkBlk at h
  simp only [Bool.and_eq_true] at h
  obtain ⟨_, h⟩ := h
  split at h
  · rename_i opn' e' m vals hb
    simp only [Bool.and_eq_true, Bool.or_eq_true] at h
    obtain ⟨⟨k1, k2⟩, k3, k4, k5⟩ := h
    have k1 := eq_of_beq k1
    have k2 := beq_eq k2
    subst k1; subst k2
    have k4 : cs.length ≤ m := by simpa using k4
    split at k5
    · rename_i vs hvs
      have := avsBeq_eq k5
      subst this
      obtain ⟨g1, g2⟩ := T.gets_spec _ _ _ _ hvs
      obtain ⟨p, o, hp, ho, c, e2, fr, rfl, f1, f2, f3, f4⟩ := R.blk _ _ (hg _ _ hb)
      obtain ⟨f5, rfl, rfl, f6⟩ := f3 rfl
      refine ⟨_, p, _, hg _ _ hb, hp, ho, c, _, (0, 0), rfl, f1, by omega, fun _ => ⟨f5, rfl, rfl, fun ho' => ?_⟩, ?_⟩
      · rcases k3 with k3 | k3
        · rw [ho'] at k3; cases k3
        · rw [beq_eq k3]; exact f6 ho'
      · intro j v hj hv
        obtain ⟨u, h2, rfl⟩ := avsRen_get (puts_get hv)
        have h3 := g2 j u h2
        rw [Nat.zero_add] at h3
        obtain ⟨x, h4, h5⟩ := f4 j u (by omega) h3
        exact ⟨x, h4, VR_to hsh h5⟩
    · cases k5
  · cases h
end

section
variable {ρ : Env} {P : Program} {pc : PC} {X : Hooks}

/-- Numbers of the one run, whose first new one is b, beside those of a heap. -/
def muR (μ μ1 : Mu) (nx b : Nat) : Mu := fun id => if id < nx then μ id else μ1 (id - nx + b)

theorem rOne_ok {gl : GL} {e : REnt} {k f : Nat} (hgl : glOK gl = true) (xOK : HooksOK P ρ X []) (hx : X.ext f = none) (hm : P.follows .mixedOrders = true)
    (hfn : ∃ fn, P.funcs[f]? = some fn ∧ fn.body.isNone = false ∧ (fn.name == "runtime.NumGoroutine") = false) (h : chkR gl X P k f e = true) : FnOK P ρ (rOne gl e pc) f := by
  obtain ⟨as, bl, v0, nx, l⟩ := e
  intro args hh v h' hr
  refine ⟨hfn, ?_⟩
  intro μ w us R hv
  unfold rOne at hr
  rcases cond_eq hr with ⟨g1, g2⟩ | ⟨_, g2⟩
  · cases g2
    simp only [Bool.and_eq_true] at g1
    obtain ⟨g1, g3, g4, g5⟩ := g1
    have g1 := avsBeq_eq g1
    have g3 := beq_eq g3
    unfold chkR at h
    split at h
    · rename_i v1 h1 hrun
      simp only [Bool.and_eq_true] at h
      obtain ⟨hveq, hnx, hall⟩ := h
      have hveq : v1 = v0 := AV.beq_eq hveq
      subst hveq
      have hnx : h1.next ≤ nx := by simpa using hnx
      clear hr
      generalize hids : avsIds args [] = ids at g1 g3 g4
      have sig64 : ∀ k, k < 64 → sig ids hh.next k = k := by
        intro k hk
        unfold sig
        have : Nat.blt k 64 = true := by simpa using hk
        rw [this]; rfl
      have RQ : Rel ρ (fun k => μ (sig ids hh.next k)) (HQ gl bl).get (HQ gl bl).next w := by
        refine ⟨?_, ?_, ?_, ?_⟩
        · intro id b hb
          obtain ⟨ety, cs, h1, rfl⟩ := layG_get hb
          rcases List.mem_append.1 h1 with h1 | h1
          · have h2 := blkSame_eq (List.all_eq_true.1 g5 _ h1)
            have h3 := List.all_eq_true.1 hgl _ h1
            simp only [Bool.and_eq_true] at h3
            have hid : id < 64 := by simpa using h3.1
            obtain ⟨p, o, q1, q2, c, e, fr, rfl, f1, f2, f3, f4⟩ := R.blk _ _ h2
            refine ⟨p, _, by show μ (sig ids hh.next id) = _; rw [sig64 id hid]; exact q1, q2, c, e, fr, rfl, f1, f2, (fun h => by cases h), ?_⟩
            intro j u hj hu
            obtain ⟨x, z1, z2⟩ := f4 j u hj hu
            refine ⟨x, z1, VR_mono (μ := muG μ) ?_ (VR_low ?_ z2)⟩
            · intro k p hp
              unfold muG at hp
              split at hp
              · rename_i hk; show μ (sig ids hh.next k) = _; rw [sig64 k hk]; exact hp
              · cases hp
            · exact low_mem h3.2 (List.mem_of_getElem? (puts_get hu))
          have h2 := List.all_eq_true.1 g4 _ h1
          unfold sameCells at h2
          split at h2
          · rename_i cs' hrd
            have h2 := avsBeq_eq h2
            subst h2
            obtain ⟨p, xs, c, e, fr, q1, q2, q3, q4, q5, q6, q7⟩ := rd_spec R (fun b h => h) hrd
            refine ⟨p, _, q1, q2, c, e, fr, rfl, q3, by simpa using q4, (fun h => by cases h), ?_⟩
            intro j u hj hu
            obtain ⟨x, z1, z2⟩ := VRs_nth (VRs_ren q5) (puts_get hu)
            exact ⟨x, by simpa using q7 j x z1, z2⟩
          · cases h2
        · intro i j b b' p q hi hj hb
          obtain ⟨_, _, _, rfl⟩ := layG_get hi
          cases hb
        · intro id p hp
          show id < 64 + bl.length
          rcases Nat.lt_or_ge id (64 + bl.length) with h1 | h1
          · exact h1
          · exfalso
            have h2 : sig ids hh.next id = hh.next + id := by
              unfold sig
              have : Nat.blt id 64 = false := by
                cases hb : Nat.blt id 64 with
                | false => rfl
                | true => have : id < 64 := by simpa using hb
                          omega
              rw [this]
              have hn : nth ids (id - 64) = none := by
                rw [nth_eq]
                exact List.getElem?_eq_none (by omega)
              simp only [cond_false, hn]
            have hp' : μ (sig ids hh.next id) = some p := hp
            rw [h2] at hp'
            have := R.fresh _ _ hp'
            omega
        · intro k hk
          obtain ⟨z, hz⟩ := R.glob k hk
          exact ⟨z, by show μ (sig ids hh.next k) = _; rw [sig64 k hk]; exact hz⟩
      have hvq : VRs ρ (fun k => μ (sig ids hh.next k)) as us.toList := VRs_ren (by rw [← g1]; exact hv)
      refine callsIn_wide.2 ((run_sound xOK PC.holds_nil hm RQ hvq hx hrun).mono ?_)
      rintro e w' ⟨x, μ1, rfl, hx', R1, S1, n1⟩
      have n1 : 64 + bl.length ≤ h1.next := n1
      have hnxt : hh.next = hh.next := rfl
      have hsh : ∀ id p, μ1 id = some p → muR μ μ1 hh.next (64 + bl.length) (tau ids hh.next (64 + bl.length) id) = some p := by
        intro id p hp
        unfold tau
        cases hb : Nat.blt id (64 + bl.length) with
        | true =>
          have hid : id < 64 + bl.length := by simpa using hb
          simp only [cond_true]
          rcases S1.new id p hp with h2 | h2
          · have h2 : μ (sig ids hh.next id) = some p := h2
            unfold muR
            rw [if_pos (R.fresh _ _ h2)]
            exact h2
          · have h2 : 64 + bl.length ≤ id := h2
            omega
        | false =>
          have hid : ¬ id < 64 + bl.length := by
            have : ¬ (Nat.blt id (64 + bl.length) = true) := by simp [hb]
            simpa using this
          simp only [cond_false]
          unfold muR
          rw [if_neg (by omega)]
          rw [← hp]; congr 1; omega
      have hi : ∀ {id : Nat}, 64 + bl.length ≤ id → tau ids hh.next (64 + bl.length) id = hh.next + (id - (64 + bl.length)) := by
        intro id hid
        unfold tau
        have : Nat.blt id (64 + bl.length) = false := by
          cases hb : Nat.blt id (64 + bl.length) with
          | false => rfl
          | true => have : id < 64 + bl.length := by simpa using hb
                    omega
        rw [this]; rfl
      have hkeep : ∀ b, b < w.heap.size → w'.heap[b]? = w.heap[b]? := fun b hb => S1.frame b hb fun id bk p h ho => by obtain ⟨_, _, _, rfl⟩ := layG_get h; cases ho
      have hnew : ∀ id b p, h1.get id = some b → μ1 id = some p → b.own = true → w.heap.size ≤ p.1 := by
        intro id b p h2 h3 hob
        rcases S1.own id b p h2 h3 with h4 | ⟨_, b', _, h4, _, _, h5⟩
        · exact h4
        · have h5 := h5 hob; obtain ⟨_, _, _, rfl⟩ := layG_get h4; cases h5
      have old : ∀ {j : Nat} {p : Loc}, μ j = some p → muR μ μ1 hh.next (64 + bl.length) j = some p := by
        intro j p hj
        unfold muR
        rw [if_pos (R.fresh _ _ hj)]; exact hj
      -- a block: old or new
      have two : ∀ {j : Nat} {b : Blk}, (layR (tau ids hh.next (64 + bl.length)) hh.tr l).get j = some b →
          (hh.get j = some b) ∨ (∃ id b1 p o, j = hh.next + (id - (64 + bl.length)) ∧ 64 + bl.length ≤ id ∧ h1.get id = some b1 ∧ μ1 id = some p ∧ muR μ μ1 hh.next (64 + bl.length) j = some p ∧ w'.heap[p.1]? = some o ∧ BR ρ (muR μ μ1 hh.next (64 + bl.length)) p b o ∧ b.own = true ∧ b1.own = true ∧ w.heap.size ≤ p.1) := by
        intro j b hb
        rcases layR_get hb with hb | ⟨id, opn, e, cs, q1, q2, q3⟩
        · exact .inl hb
        · right
          have hc0 := List.all_eq_true.1 hall _ q1
          simp only [Bool.and_eq_true] at hc0
          have r1 : 64 + bl.length ≤ id := by simpa using hc0.1
          obtain ⟨b1, p, o, r2, r3, r4, r5⟩ := chkBlk_ren R1 (fun _ _ h => h) hsh hc0.2
          have r6 := hsh _ _ r3
          rw [← q2] at r6
          rw [hi r1] at q2
          have ho : b1.own = true := by
            have hc := hc0.2
            simp only [chkBlk, r2] at hc
            cases b1 with
            | cells own opn' e' m vals => cases own <;> first | rfl | simp at hc
            | _ => first | rfl | simp at hc
          exact ⟨id, b1, p, o, q2, r1, r2, r3, r6, r4, q3 ▸ r5, by rw [q3]; rfl, ho, hnew _ _ _ r2 r3 ho⟩
      have oldp : ∀ {j : Nat} {b : Blk} {p : Loc}, hh.get j = some b → muR μ μ1 hh.next (64 + bl.length) j = some p → μ j = some p := by
        intro j b p hb hp
        obtain ⟨q, _, hq, _⟩ := R.blk _ _ hb
        rw [old hq] at hp
        cases hp
        exact hq
      refine ⟨x, muR μ μ1 hh.next (64 + bl.length), rfl, VR_to hsh hx', ⟨?_, ?_, ?_, fun k hk => let ⟨z, hz⟩ := R.glob k hk; ⟨z, old hz⟩⟩, ⟨fun id p hp => old hp, ?_, ?_, S1.size, S1.tape, S1.os, S1.output, fun b hb _ => hkeep b hb, ?_, S1.fz⟩, ?_⟩
      · intro j b hb
        rcases two hb with hb | ⟨id, b1, p, o, q1, q2, q3, q4, q5, q6, q7, _⟩
        · obtain ⟨p, o, r1, r2, r3⟩ := R.blk _ _ hb
          exact ⟨p, o, old r1, by rw [hkeep _ (Array.getElem?_eq_some_iff.1 r2).1]; exact r2, BR_mono (fun _ _ h => old h) r3⟩
        · exact ⟨p, o, q5, q6, q7⟩
      · intro i j b b' p q hi' hj ho hne hp hq
        rcases two hi' with hi' | ⟨id, b1, p1, o, q1, q2, q3, q4, q5, q6, q7, q8, q9, q10⟩ <;> rcases two hj with hj | ⟨id', b2, p2, o', s1, s2, s3, s4, s5, s6, s7, s8, s9, s10⟩
        · exact R.inj i j b b' p q hi' hj ho hne (oldp hi' hp) (oldp hj hq)
        · rw [s5] at hq; cases hq
          have := R.lt hi' (oldp hi' hp)
          omega
        · rw [q5] at hp; cases hp
          have := R.lt hj (oldp hj hq)
          omega
        · rw [q5] at hp; cases hp
          rw [s5] at hq; cases hq
          exact R1.inj id id' b1 b2 _ _ q3 s3 q9 (fun e => hne (by rw [q1, s1, e])) q4 s4
      · intro id p hp
        show id < hh.next + (nx - (64 + bl.length))
        unfold muR at hp
        split at hp
        · omega
        · have := R1.fresh _ _ hp
          omega
      · intro id p hp
        unfold muR at hp
        split at hp
        · exact .inl hp
        · exact .inr (by omega)
      · intro j b hb
        rcases two hb with hb | ⟨id, b1, p, o, q1, q2, _⟩
        · exact .inl ⟨b, hb⟩
        · exact .inr (by omega)
      · intro j b p hb hp
        rcases two hb with hb | ⟨id, b1, p1, o, q1, q2, q3, q4, q5, q6, q7, q8, q9, q10⟩
        · exact .inr ⟨j, b, p, hb, oldp hb hp, rfl, fun h => h⟩
        · rw [q5] at hp; cases hp; exact .inl q10
      · show hh.next ≤ hh.next + (nx - (64 + bl.length))
        omega
    · cases h
  · cases g2

theorem rTab_ok {gl : GL} {f k : Nat} (hgl : glOK gl = true) (xOK : HooksOK P ρ X []) (hx : X.ext f = none) (hm : P.follows .mixedOrders = true)
    (hfn : ∃ fn, P.funcs[f]? = some fn ∧ fn.body.isNone = false ∧ (fn.name == "runtime.NumGoroutine") = false) :
    ∀ {l : List REnt}, l.all (chkR gl X P k f) = true → FnOK P ρ (rTab gl l pc) f
  | [], _ => sumNo_ok
  | e :: r, h => by
    simp only [List.all_cons, Bool.and_eq_true] at h
    exact sumOr_ok (rOne_ok hgl xOK hx hm hfn h.1) (rTab_ok hgl xOK hx hm hfn h.2)

end
end Go.Ev

/- Runs that part by themselves where a test is open; a function's text in pieces, at whose ends the cases meet again; no theorem of the program yet; no conditions. -/
namespace Go.Ev

/-! ### Runs that part by themselves -/
noncomputable def auto (chk : PC → AV → H → Bool) (go : PC → Res (AV × H)) : Nat → PC → Bool
  | 0, _ => false
  | n + 1, pc =>
    match go pc with
    | .ok x => chk pc x.1 x.2
    | .need b => auto chk go n ((b, true) :: pc) && auto chk go n ((b, false) :: pc)
    | .fail _ => false

theorem holds_cons {ρ : Env} {x : SB × Bool} {l : PC} : PC.holds ρ (x :: l) ↔ x.1.den ρ = x.2 ∧ PC.holds ρ l := by
  constructor
  · intro h; exact ⟨h x List.mem_cons_self, fun y hy => h y (List.mem_cons_of_mem _ hy)⟩
  · rintro ⟨h1, h2⟩ y hy
    rcases List.mem_cons.1 hy with rfl | hy
    · exact h1
    · exact h2 y hy
theorem holds_append {ρ : Env} {l m : PC} : PC.holds ρ (l ++ m) ↔ PC.holds ρ l ∧ PC.holds ρ m := by
  induction l with
  | nil => exact ⟨fun h => ⟨PC.holds_nil, h⟩, fun h => h.2⟩
  | cons x l ih => rw [List.cons_append, holds_cons, holds_cons, ih, and_assoc]

theorem auto_spec {ρ : Env} {chk : PC → AV → H → Bool} {go : PC → Res (AV × H)} : ∀ {n : Nat} {pc : PC}, auto chk go n pc = true → PC.holds ρ pc → ∃ pc' v h', PC.holds ρ pc' ∧ go pc' = .ok (v, h') ∧ chk pc' v h' = true
  | 0, _, h, _ => by cases h
  | n + 1, pc, h, hp => by
    unfold auto at h
    split at h
    · rename_i x hx
      exact ⟨pc, x.1, x.2, hp, hx, h⟩
    · rename_i b hb
      simp only [Bool.and_eq_true] at h
      cases hd : b.den ρ with
      | true => exact auto_spec h.1 (holds_cons.2 ⟨hd, hp⟩)
      | false => exact auto_spec h.2 (holds_cons.2 ⟨hd, hp⟩)
    · cases h

/-- A call that is run in place, by its own hooks. -/
noncomputable def runH (P : Program) (X : Hooks) (k f : Nat) : PC → List AV → H → Res (AV × H) := fun pc args h => run P X pc k f args h

theorem runH_ok {ρ : Env} {P : Program} {X : Hooks} {pc : PC} {k f : Nat} (xOK : HooksOK P ρ X pc) (hp : pc.holds ρ) (hx : X.ext f = none) (hm : P.follows .mixedOrders = true)
    (hfn : ∃ fn, P.funcs[f]? = some fn ∧ fn.body.isNone = false ∧ (fn.name == "runtime.NumGoroutine") = false) : FnOK P ρ (runH P X k f pc) f := by
  intro args h v h' hr
  exact ⟨hfn, fun μ w us R hv => callsIn_wide.2 (run_sound xOK hp hm R hv hx hr)⟩

/-! ### Less that is known -/
noncomputable def T.sub {α : Type} (eq : α → α → Bool) : T α → T α → Bool
  | .nil, _ => true
  | .node v l r, .nil => v.isNone && (T.sub eq l .nil && T.sub eq r .nil)
  | .node v l r, .node v' l' r' => (match v, v' with
    | none, _ => true
    | some a, some b => eq a b
    | some _, none => false) && (T.sub eq l l' && T.sub eq r r')

theorem T.sub_get {α : Type} {eq : α → α → Bool} : ∀ {s t : T α} {k : Nat} {a : α}, T.sub eq s t = true → s.get k = some a → ∃ b, t.get k = some b ∧ eq a b = true
  | .nil, _, _, _, _, h => by rw [T.get_nil] at h; cases h
  | .node v l r, .nil, k, a, h, hg => by
    simp only [T.sub, Bool.and_eq_true] at h
    rw [T.get_node] at hg
    split at hg
    · subst hg; simp at h
    · split at hg
      · obtain ⟨b, hb, _⟩ := T.sub_get h.2.1 hg; rw [T.get_nil] at hb; cases hb
      · obtain ⟨b, hb, _⟩ := T.sub_get h.2.2 hg; rw [T.get_nil] at hb; cases hb
  | .node v l r, .node v' l' r', k, a, h, hg => by
    simp only [T.sub, Bool.and_eq_true] at h
    rw [T.get_node] at hg
    simp only [T.get_node]
    split at hg
    · rename_i h0
      rw [if_pos h0]
      subst hg
      cases v' with
      | none => simp at h
      | some b => exact ⟨b, rfl, h.1⟩
    · rename_i h0
      rw [if_neg h0]
      split at hg
      · rename_i h1
        rw [if_pos h1]; exact T.sub_get h.2.1 hg
      · rename_i h1
        rw [if_neg h1]; exact T.sub_get h.2.2 hg

noncomputable def Blk.le : Blk → Blk → Bool
  | .cells o p e n t, .cells o' p' e' n' t' => (o == o') && ((p == p') && (Nat.beq e e' && (Nat.beq n n' && T.sub AV.beq t t')))
  | _, _ => false

noncomputable def St.le (s t : St) : Bool := T.sub AV.beq s.tm t.tm && (T.sub Blk.le s.h.tr t.h.tr && (Nat.ble t.h.next s.h.next && (s.marks.isEmpty && t.marks.isEmpty)))

section
variable {ρ : Env} {P : Program} {pc : PC} {X : Hooks}

theorem BR_le {μ : Mu} {p : Loc} {b b' : Blk} {o : Obj} (h : b.le b' = true) (hb : BR ρ μ p b' o) : BR ρ μ p b o ∧ b.own = b'.own := by
  cases b <;> cases b' <;> simp only [Blk.le] at h <;> first | (cases h; done) | skip
  rename_i o1 p1 e1 n1 t1 o2 p2 e2 n2 t2
  simp only [Bool.and_eq_true] at h
  obtain ⟨h1, h2, h3, h4, h5⟩ := h
  have h1 := eq_of_beq h1
  have h2 := eq_of_beq h2
  have h3 := beq_eq h3
  have h4 := beq_eq h4
  subst h1; subst h2; subst h3; subst h4
  obtain ⟨c, e, fr, g1, g2, g3, g4, g5⟩ := hb
  refine ⟨⟨c, e, fr, g1, g2, g3, g4, ?_⟩, rfl⟩
  intro j v hj hv
  obtain ⟨v', q1, q2⟩ := T.sub_get h5 hv
  have q2 := AV.beq_eq q2
  subst q2
  exact g5 j v hj q1

theorem StR_le {μ : Mu} {fr : Fr} {s t : St} {a : Act} {w : World} (h : s.le t = true) (ht : StR ρ μ fr t a w) : StR ρ μ fr s a w := by
  unfold St.le at h
  simp only [Bool.and_eq_true] at h
  obtain ⟨h1, h2, h3, h4, h5⟩ := h
  obtain ⟨A, R⟩ := ht
  have m1 : s.marks = [] := by simpa using h4
  have m2 : t.marks = [] := by simpa using h5
  refine ⟨⟨A.size, ?_, ?_, rfl⟩, ⟨?_, ?_, ?_, R.glob⟩⟩
  · intro k v hv
    have e1 : (tmOf fr s).get k = if bit fr.mask k then s.tm.get k else none := by
      rw [Tm.get_eq]; rfl
    have e2 : (tmOf fr t).get k = if bit fr.mask k then t.tm.get k else none := by
      rw [Tm.get_eq]; rfl
    rw [e1] at hv
    split at hv
    · rename_i hb
      obtain ⟨v', q1, q2⟩ := T.sub_get h1 hv
      have q2 := AV.beq_eq q2
      subst q2
      exact A.tmr k v (by rw [e2, if_pos hb]; exact q1)
    · cases hv
  · have := A.dfr
    rw [m2] at this
    rw [m1]; exact this
  · intro id b hb
    obtain ⟨b', q1, q2⟩ := T.sub_get h2 hb
    obtain ⟨p, o, r1, r2, r3⟩ := R.blk id b' q1
    exact ⟨p, o, r1, r2, (BR_le q2 r3).1⟩
  · intro i j b b' p q hi hj ho hne hp hq
    obtain ⟨b1, q1, q2⟩ := T.sub_get h2 hi
    obtain ⟨b2, s1, s2⟩ := T.sub_get h2 hj
    obtain ⟨p1, o1, r1, r2, r3⟩ := R.blk i b1 q1
    exact R.inj i j b1 b2 p q q1 s1 (by rw [← (BR_le q2 r3).2]; exact ho) hne hp hq
  · intro id p hp
    have := R.fresh id p hp
    have h3 : t.h.next ≤ s.h.next := by simpa using h3
    omega

theorem Stp_le {μ0 μ : Mu} {g0 : G} {nx0 : Nat} {w0 w : World} {s t : St} (h : s.le t = true) (R : Rel ρ μ t.h.get t.h.next w) (S : Stp μ0 g0 nx0 w0 μ t.h.get w) : Stp μ0 g0 nx0 w0 μ s.h.get w := by
  unfold St.le at h
  simp only [Bool.and_eq_true] at h
  obtain ⟨h1, h2, h3, _⟩ := h
  refine ⟨S.le, S.new, ?_, S.size, S.tape, S.os, S.output, S.frame, ?_, S.fz⟩
  · intro id b hb
    obtain ⟨b', q1, _⟩ := T.sub_get h2 hb
    exact S.ids id b' q1
  · intro id bk p hb hp
    obtain ⟨b', q1, q2⟩ := T.sub_get h2 hb
    obtain ⟨p1, o1, r1, r2, r3⟩ := R.blk id b' q1
    rcases S.own id b' p q1 hp with h | ⟨id', bk', p', z1, z2, z3, z4⟩
    · exact .inl h
    · exact .inr ⟨id', bk', p', z1, z2, z3, fun ho => z4 (by rw [← (BR_le q2 r3).2]; exact ho)⟩

/-! ### A text in pieces -/
noncomputable def flat : Code → List Code
  | .seq a b => flat a ++ flat b
  | c => [c]

def wpL (F : Fence) (n : Nat) (P : Program) : List Code → (Exit → Act → World → Prop) → Act → World → Prop
  | [], Q => Q .normal
  | c :: l, Q => c.wpIn F n P fun e a w => match e with
    | .normal => wpL F n P l Q a w
    | e => Q e a w

theorem wpL_mono {ro : Option Nat} : ∀ {l : List Code} {Q Q' : Exit → Act → World → Prop} {a : Act} {w : World}, (∀ e a w, Q e a w → Q' e a w) → wpL (fen ro) 0 P l Q a w → wpL (fen ro) 0 P l Q' a w
  | [], _, _, _, _, h, hq => h _ _ _ hq
  | c :: l, Q, Q', a, w, h, hq => by
    unfold wpL at hq ⊢
    refine wpIn_mono hq ?_
    intro e a w h1
    cases e with
    | normal => exact wpL_mono h h1
    | _ => exact h _ _ _ h1

theorem wpL_append {ro : Option Nat} : ∀ {l m : List Code} {Q : Exit → Act → World → Prop} {a : Act} {w : World}, wpL (fen ro) 0 P l (fun e a w => match e with
    | .normal => wpL (fen ro) 0 P m Q a w
    | e => Q e a w) a w → wpL (fen ro) 0 P (l ++ m) Q a w
  | [], _, _, _, _, h => h
  | c :: l, m, Q, a, w, h => by
    show (c.wpIn (fen ro) 0 P _ a w)
    unfold wpL at h
    refine wpIn_mono h ?_
    intro e a w h1
    cases e with
    | normal => exact wpL_append h1
    | _ => exact h1

theorem wpL_flat {ro : Option Nat} : ∀ {c : Code} {Q : Exit → Act → World → Prop} {a : Act} {w : World}, wpL (fen ro) 0 P (flat c) Q a w → c.wpIn (fen ro) 0 P Q a w := by
  have one : ∀ {c : Code} {Q : Exit → Act → World → Prop} {a : Act} {w : World}, wpL (fen ro) 0 P [c] Q a w → c.wpIn (fen ro) 0 P Q a w := by
    intro c Q a w h
    unfold wpL at h
    refine wpIn_mono h ?_
    intro e a w h1
    cases e with
    | normal => exact h1
    | _ => exact h1
  intro c
  induction c with
  | seq c1 c2 ih1 ih2 =>
    intro Q a w h
    have h : wpL (fen ro) 0 P (flat c1 ++ flat c2) Q a w := h
    refine wpIn_seq (ih1 ?_)
    have back : ∀ {l m : List Code} {Q : Exit → Act → World → Prop} {a : Act} {w : World}, wpL (fen ro) 0 P (l ++ m) Q a w → wpL (fen ro) 0 P l (fun e a w => match e with
        | .normal => wpL (fen ro) 0 P m Q a w
        | e => Q e a w) a w := by
      intro l
      induction l with
      | nil => intro m Q a w h; exact h
      | cons c l ih =>
        intro m Q a w h
        have h : c.wpIn (fen ro) 0 P _ a w := h
        unfold wpL
        refine wpIn_mono h ?_
        intro e a w h1
        cases e with
        | normal => exact ih h1
        | _ => exact h1
    refine wpL_mono ?_ (back h)
    intro e a w h1
    cases e with
    | normal => exact ih2 h1
    | _ => exact h1
  | _ => intro Q a w h; exact one h

noncomputable def runL (rc : Fr → Code → St → Res (Ex × St)) (fr : Fr) : List Code → St → Res (Ex × St)
  | [], st => .ok (.normal, st)
  | c :: l, st => (rc fr c st).bind fun x => match x.1 with
    | .normal => runL rc fr l x.2
    | e => .ok (e, x.2)

theorem runL_ok {rc : Fr → Code → St → Res (Ex × St)} (h : CodeOK P ρ rc) {fr : Fr} : ∀ {l : List Code} {st : St} {x : Ex × St}, runL rc fr l st = .ok x → ∀ {μ : Mu} {ro : Option Nat} {a : Act} {w : World}, FR μ fr ro → StR ρ μ fr st a w → wpL (fen ro) 0 P l (CPost ρ μ fr st w x) a w
  | [], st, x, hr, μ, ro, a, w, _, hS => by cases hr; exact ⟨rfl, μ, hS, Stp.refl _ _ _ _, Nat.le_refl _⟩
  | c :: l, st, x, hr, μ, ro, a, w, hF, hS => by
    unfold runL at hr
    obtain ⟨⟨e1, st1⟩, h1, h2⟩ := Res.bind_eq_ok hr
    unfold wpL
    refine wpIn_mono (h _ _ _ _ h1 _ _ _ _ hF hS) ?_
    rintro e a1 w1 ⟨rfl, μ1, hS1, S1, n1⟩
    cases e1 with
    | normal => exact wpL_mono (fun e a w hq => CPost_after S1 n1 hq) (runL_ok h h2 (FR_mono S1.le hF) hS1)
    | exit id => cases h2; exact ⟨rfl, μ1, hS1, S1, n1⟩
    | goto l => cases h2; exact ⟨rfl, μ1, hS1, S1, n1⟩
    | ret => cases h2; exact ⟨rfl, μ1, hS1, S1, n1⟩

/-- Does a function end here, telling 'true'? -/
noncomputable def endT (P : Program) (pc : PC) (mask : Nat) (rs : List ResultVar) (x : Ex × St) : Bool :=
  match fnEnd P mask rs x with
  | .ok (.bool b, _) => isSome true (dec pc b)
  | _ => false

/-- From such a state the rest of a function's text comes to its end, telling 'true'. -/
def Fin (P : Program) (ρ : Env) (fr : Fr) (fn : Func) (l : List Code) (st : St) : Prop :=
  ∀ μ a w, StR ρ μ fr st a w → wpL (fen none) 0 P l (fun e a' w' => ∃ pc x μ', PC.holds ρ pc ∧ endT P pc (maskOf fn) fn.results.toList x = true ∧ e = x.1.exit' ∧ StR ρ μ' fr x.2 a' w' ∧ Stp μ st.h.get st.h.next w μ' x.2.h.get w' ∧ st.h.next ≤ x.2.h.next) a w

/-- The last piece, in each case. -/
noncomputable def lastOK (P : Program) (X : PC → Hooks) (k : Nat) (fr : Fr) (fn : Func) (l : List Code) (st : St) (pc : PC) : Bool :=
  match runL (codeA P (X pc) pc (iter P (X pc) pc k)) fr l st with
  | .ok x => endT P pc (maskOf fn) fn.results.toList x
  | _ => false

/-- A piece, in each case: it comes to a state that says no less. -/
noncomputable def segOK (P : Program) (X : PC → Hooks) (k : Nat) (fr : Fr) (l : List Code) (st st' : St) (pc : PC) : Bool :=
  match runL (codeA P (X pc) pc (iter P (X pc) pc k)) fr l st with
  | .ok (.normal, s) => st'.le s
  | _ => false

theorem fin_last {Xs : PC → Hooks} {k : Nat} {fr : Fr} {fn : Func} {l : List Code} {st : St} (hm : P.follows .mixedOrders = true) (hfr : fr.round = none) {pc : PC} (hp : PC.holds ρ pc) (hX : HooksOK P ρ (Xs pc) pc)
    (h : lastOK P Xs k fr fn l st pc = true) : Fin P ρ fr fn l st := by
  intro μ a w hS
  unfold lastOK at h
  split at h
  · rename_i x hr
    refine wpL_mono ?_ (runL_ok (codeA_spec (iter_ok hX hp hm k).1 hX hp hm) hr (by unfold FR; rw [hfr]) hS)
    rintro e a' w' ⟨he, μ', h1, h2, h3⟩
    exact ⟨pc, x, μ', hp, h, he, h1, h2, h3⟩
  · cases h

theorem fin_seg {Xs : PC → Hooks} {k : Nat} {fr : Fr} {fn : Func} {l m : List Code} {st st' : St} (hm : P.follows .mixedOrders = true) (hfr : fr.round = none) {pc : PC} (hp : PC.holds ρ pc) (hX : HooksOK P ρ (Xs pc) pc)
    (h : segOK P Xs k fr l st st' pc = true) (hF : Fin P ρ fr fn m st') : Fin P ρ fr fn (l ++ m) st := by
  intro μ a w hS
  unfold segOK at h
  split at h
  · rename_i s hr
    refine wpL_append (wpL_mono ?_ (runL_ok (codeA_spec (iter_ok hX hp hm k).1 hX hp hm) hr (by unfold FR; rw [hfr]) hS))
    rintro e a' w' ⟨rfl, μ', h1, h2, h3⟩
    show wpL (fen none) 0 P m _ a' w'
    have n' : s.h.next ≤ st'.h.next := by
      unfold St.le at h
      simp only [Bool.and_eq_true] at h
      simpa using h.2.2.1
    refine wpL_mono ?_ (hF μ' a' w' (StR_le h h1))
    rintro e a2 w2 ⟨pc2, x, μ2, q1, q2, q3, q4, q5, q6⟩
    exact ⟨pc2, x, μ2, q1, q2, q3, q4, Stp.trans (Stp_le h h1.2 h2) q5 (Nat.le_trans h3 n'), Nat.le_trans (Nat.le_trans h3 n') q6⟩
  · cases h

/-- The state at a function's start. -/
noncomputable def st0 (fn : Func) (args : List AV) (h : H) : St := ⟨argsT (maskOf fn) .nil 0 args, h, []⟩
noncomputable def fr0 (f : Nat) (fn : Func) : Fr := ⟨f, fn.ntmps, maskOf fn, none⟩

theorem calls_fin {f : Nat} {fn : Func} {c : Code} {args : List AV} {h0 : H} {us : Array Value} {μ : Mu} {w : World} (hfn : P.funcs[f]? = some fn) (hc : fn.body = some c) (hl : args.length ≤ fn.ntmps)
    (hF : Fin P ρ (fr0 f fn) fn (flat c) (st0 fn args h0)) (R : Rel ρ μ h0.get h0.next w) (hg : ∀ id b, h0.get id = some b → b.own = false) (hv : VRs ρ μ args us.toList) :
    Calls P f us w fun e w' => e = .returned (.bool true) ∧ Go.RowKit.Below w.heap.size w w' := by
  have hsz := VRs_size hv
  refine callsIn_wide.1 (callsIn_of_wp_marks (n := 0) hfn hc trivial ?_)
  have hA : AR ρ μ ⟨f, fn.ntmps, maskOf fn, none⟩ ⟨maskOf fn, argsT (maskOf fn) .nil 0 args, []⟩ [] { tmps := us ++ Array.replicate (fn.ntmps - us.size) undef, defers := [] } := by
    refine ⟨by simp; omega, ?_, rfl, rfl⟩
    intro t b ht
    rw [Tm.get_eq] at ht
    simp only at ht
    split at ht
    · rename_i hb
      rcases argsT_get ht hb with ⟨_, h4⟩ | h4
      · rw [Nat.sub_zero] at h4
        obtain ⟨x, h5, h6⟩ := VRs_get hv _ _ h4
        rw [Array.getElem?_toList] at h5
        refine ⟨x, ?_, h6⟩
        rw [Array.getElem?_append_left (Array.getElem?_eq_some_iff.1 h5).1]
        exact h5
      · rw [T.get_nil] at h4; cases h4
    · cases ht
  refine wpL_flat (ro := none) ?_
  refine wpL_mono ?_ (hF μ _ w ⟨hA, R⟩)
  rintro e a' w' ⟨pc, ⟨ex, st⟩, μ', hp, ht, rfl, ⟨A', R'⟩, S', n'⟩
  unfold endT at ht
  split at ht
  · rename_i b hh hend
    unfold fnEnd at hend
    have fin : ∀ {h1 : H} {vs : List AV}, takeA st.h st.marks = .ok h1 → resultsA P ⟨maskOf fn, st.tm, []⟩ h1 fn.results.toList = .ok vs → AV.bool b = oneOf vs →
        LeavesInM Fence.wide 0 P fn a'.tmps (fun e w' => e = .returned (.bool true) ∧ Go.RowKit.Below w.heap.size w w') a'.defers .returning w' := by
      intro h1 vs q1 q2 q3
      refine takeA_spec A'.dfr R' q1 ?_
      intro w2 R2 S2 n2
      obtain ⟨y, r1, r2⟩ := results_run (P := P) (tm := ⟨maskOf fn, st.tm, []⟩) A'.tmr R2 q2
      refine ⟨y, r1, ?_⟩
      rw [← q3, VR] at r2
      subst r2
      have hd := dec_spec hp (isSome_eq ht)
      have S := Stp.trans S' S2 n'
      exact ⟨by rw [hd], S.os, S.tape, S.output, S.size, fun k hk => S.frame k hk fun id bk p h ho => by rw [hg id bk h] at ho; cases ho⟩
    cases ex with
    | normal =>
      obtain ⟨h1, q1, hr⟩ := Res.bind_eq_ok hend
      obtain ⟨vs, q2, hr⟩ := Res.bind_eq_ok hr
      have q3 : oneOf vs = .bool b := by
        simp only [Res.ok.injEq, Prod.mk.injEq] at hr
        exact hr.1
      exact fin q1 q2 q3.symm
    | ret =>
      obtain ⟨h1, q1, hr⟩ := Res.bind_eq_ok hend
      obtain ⟨vs, q2, hr⟩ := Res.bind_eq_ok hr
      have q3 : oneOf vs = .bool b := by
        simp only [Res.ok.injEq, Prod.mk.injEq] at hr
        exact hr.1
      exact fin q1 q2 q3.symm
    | exit id => cases hend
    | goto l => cases hend
  · cases ht
end
end Go.Ev
