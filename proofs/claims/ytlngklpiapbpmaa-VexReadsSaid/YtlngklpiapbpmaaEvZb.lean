/- Summaries of functions with told arguments hold of the model; no theorem of the program yet; no conditions. -/
import Derived.Test.YtlngklpiapbpmaaEvZ
set_option linter.unusedSimpArgs false
set_option linter.unusedVariables false
namespace Go.Ev

/-! ### Values that name no block of the run's own -/
noncomputable def lowF : Fn → Bool
  | .func _ => true
  | _ => false
mutual
noncomputable def AV.low : AV → Bool
  | .ptr id _ => Nat.blt id 64
  | .slc id _ _ _ _ _ => Nat.blt id 64
  | .slv id _ _ _ _ => Nat.blt id 64
  | .map id => Nat.blt id 64
  | .func f a b => lowF f && (avsLow a && avsLow b)
  | .iface _ v => v.low
  | .agg cs => avsLow cs
  | .tup vs => avsLow vs
  | _ => true
noncomputable def avsLow : List AV → Bool
  | [] => true
  | a :: as => a.low && avsLow as
end

/-! ### Package variables that hold what is known -/
/-- A variable's number, its cells' type, its cells. -/
abbrev GL := List (Nat × Nat × List AV)
noncomputable def glBlk (e : Nat) (cs : List AV) : Blk := .cells false false e cs.length (T.puts .nil 0 cs)
noncomputable def layG : GL → T Blk
  | [] => .nil
  | (k, e, cs) :: r => (layG r).put k (glBlk e cs)
noncomputable def HG (gl : GL) : H := ⟨64, layG gl⟩

noncomputable def T.beqA : T AV → T AV → Bool
  | .nil, .nil => true
  | .node v l r, .node v' l' r' => (match v, v' with
    | none, none => true
    | some a, some b => a.beq b
    | _, _ => false) && (l.beqA l' && r.beqA r')
  | _, _ => false

noncomputable def blkSame (b : Option Blk) (e : Nat) (cs : List AV) : Bool :=
  match b with
  | some (.cells false false e' n t) => Nat.beq e' e && (Nat.beq n cs.length && t.beqA (T.puts .nil 0 cs))
  | _ => false

noncomputable def hasG (gl : GL) (h : H) : Bool := gl.all fun x => blkSame (h.get x.1) x.2.1 x.2.2
noncomputable def glOK (gl : GL) : Bool := gl.all fun x => Nat.blt x.1 64 && avsLow x.2.2

/-- A summary of a call by these arguments. -/
noncomputable def sumArg (gl : GL) (as : List AV) (v : AV) (nx : Nat) (l : List SBlk) : PC → List AV → H → Res (AV × H) := fun _ args h =>
  bif avsBeq args as && hasG gl h then .ok (v.sh (h.next - 64), ⟨nx + (h.next - 64), laySum (h.next - 64) h.tr l⟩) else .fail "a summary of other arguments"

/-- The first summary, or the second one. -/
noncomputable def sumOr (a b : PC → List AV → H → Res (AV × H)) : PC → List AV → H → Res (AV × H) := fun pc args h =>
  match a pc args h with
  | .ok x => .ok x
  | _ => b pc args h

abbrev SEnt := List AV × AV × Nat × List SBlk

noncomputable def sumNo : PC → List AV → H → Res (AV × H) := fun _ _ _ => .fail "no summary of these arguments"

noncomputable def sumTab (gl : GL) : List SEnt → PC → List AV → H → Res (AV × H)
  | [] => sumNo
  | e :: r => sumOr (sumArg gl e.1 e.2.1 e.2.2.1 e.2.2.2) (sumTab gl r)

noncomputable def chkEnt (gl : GL) (X : Hooks) (P : Program) (k f : Nat) (e : SEnt) : Bool := avsLow e.1 && chkSum e.2.1 e.2.2.1 e.2.2.2 (run P X [] k f e.1 (HG gl))

section
variable {ρ : Env} {μ : Mu}
theorem low_mu {id : Nat} {p : Loc} (h : Nat.blt id 64 = true) (hp : μ id = some p) : muG μ id = some p := by
  unfold muG
  rw [if_pos (by simpa using h)]; exact hp

mutual
theorem VR_low : ∀ {a : AV} {v : Value}, a.low = true → VR ρ μ a v → VR ρ (muG μ) a v
  | .int _ _, _, _, hv => hv
  | .bool _, _, _, hv => hv
  | .str _ _, _, _, hv => hv
  | .nilp, _, _, hv => hv
  | .ptr _ _, _, hl, ⟨p, h1, h2⟩ => ⟨p, low_mu hl h1, h2⟩
  | .nils, _, _, hv => hv
  | .slc .., _, hl, ⟨p, c, h1, h2⟩ => ⟨p, c, low_mu hl h1, h2⟩
  | .emp, _, _, hv => hv
  | .slv .., _, hl, ⟨p, c, m, h0, h1, h2⟩ => ⟨p, c, m, h0, low_mu hl h1, h2⟩
  | .nilm, _, _, hv => hv
  | .map _, _, hl, ⟨p, h1, h2⟩ => ⟨p, low_mu hl h1, h2⟩
  | .nilf, _, _, hv => hv
  | .func fn _ _, _, hl, ⟨f, a, b, h1, h2, h3, h4⟩ => by
    simp only [AV.low, Bool.and_eq_true] at hl
    refine ⟨f, a, b, h1, ?_, VRs_low hl.2.1 h3, VRs_low hl.2.2 h4⟩
    cases fn with
    | func _ => exact h2
    | _ => exact absurd hl.1 (by simp [lowF])
  | .nili, _, _, hv => hv
  | .iface _ _, _, hl, ⟨y, h1, h2⟩ => ⟨y, h1, VR_low (by simpa only [AV.low] using hl) h2⟩
  | .agg _, _, hl, ⟨ys, h1, h2⟩ => ⟨ys, h1, VRs_low (by simpa only [AV.low] using hl) h2⟩
  | .tup _, _, hl, ⟨ys, h1, h2⟩ => ⟨ys, h1, VRs_low (by simpa only [AV.low] using hl) h2⟩
theorem VRs_low : ∀ {as : List AV} {vs : List Value}, avsLow as = true → VRs ρ μ as vs → VRs ρ (muG μ) as vs
  | [], _, _, hv => hv
  | _ :: _, _, hl, ⟨y, r, h1, h2, h3⟩ => by
    simp only [avsLow, Bool.and_eq_true] at hl
    exact ⟨y, r, h1, VR_low hl.1 h2, VRs_low hl.2 h3⟩
end
end

section
variable {ρ : Env} {P : Program} {pc : PC} {X : Hooks}

theorem T.beqA_eq : ∀ {s t : T AV}, s.beqA t = true → s = t
  | .nil, .nil, _ => rfl
  | .nil, .node _ _ _, h => by simp [T.beqA] at h
  | .node _ _ _, .nil, h => by simp [T.beqA] at h
  | .node v l r, .node v' l' r', h => by
    simp only [T.beqA, Bool.and_eq_true] at h
    obtain ⟨h1, h2, h3⟩ := h
    rw [T.beqA_eq h2, T.beqA_eq h3]
    cases v <;> cases v' <;> first
      | rfl
      | (simp only at h1; rw [AV.beq_eq h1])
      | simp at h1

theorem HG_get : ∀ {gl : GL} {id : Nat} {b : Blk}, (HG gl).get id = some b → ∃ e cs, (id, e, cs) ∈ gl ∧ b = glBlk e cs
  | [], id, b, h => by
    have h' : (T.nil : T Blk).get id = some b := h
    rw [T.get_nil] at h'; cases h'
  | (k, e, cs) :: r, id, b, h => by
    have h' : ((layG r).put k (glBlk e cs)).get id = some b := h
    rw [T.get_put] at h'
    split at h'
    · rename_i q; cases h'; subst q; exact ⟨e, cs, List.mem_cons_self, rfl⟩
    · obtain ⟨e', cs', h1, h2⟩ := HG_get (gl := r) h'
      exact ⟨e', cs', List.mem_cons_of_mem _ h1, h2⟩

theorem blkSame_eq {b : Option Blk} {e : Nat} {cs : List AV} (h : blkSame b e cs = true) : b = some (glBlk e cs) := by
  unfold blkSame at h
  split at h
  · rename_i e' n t
    simp only [Bool.and_eq_true] at h
    rw [beq_eq h.1, beq_eq h.2.1, T.beqA_eq h.2.2]; rfl
  · cases h

theorem RelGL {gl : GL} {μ : Mu} {h : H} {nx : Nat} {w : World} (R : Rel ρ μ h.get nx w) (hg : hasG gl h = true) (ho : glOK gl = true) : Rel ρ (muG μ) (HG gl).get (HG gl).next w where
  blk := fun id b hb => by
    obtain ⟨e, cs, h1, rfl⟩ := HG_get hb
    have h2 := blkSame_eq (List.all_eq_true.1 hg _ h1)
    have h3 := List.all_eq_true.1 ho _ h1
    simp only [Bool.and_eq_true] at h3
    obtain ⟨p, o, q1, q2, c, e', fr, rfl, f1, f2, f3, f4⟩ := R.blk _ _ h2
    refine ⟨p, _, low_mu h3.1 q1, q2, c, e', fr, rfl, f1, f2, (fun h => by cases h), fun j v hj hv => ?_⟩
    obtain ⟨x, g1, g2⟩ := f4 j v hj hv
    refine ⟨x, g1, VR_low ?_ g2⟩
    have := puts_get hv
    have hm := List.mem_of_getElem? this
    have all : ∀ {l : List AV} {v : AV}, avsLow l = true → v ∈ l → v.low = true := by
      intro l
      induction l with
      | nil => intro v _ h; cases h
      | cons a l ih =>
        intro v h1 h2
        simp only [avsLow, Bool.and_eq_true] at h1
        rcases List.mem_cons.1 h2 with rfl | h2
        · exact h1.1
        · exact ih h1.2 h2
    exact all h3.2 hm
  inj := fun i j b b' p q hi hj hb => by
    obtain ⟨e, cs, h1, rfl⟩ := HG_get hi
    cases hb
  fresh := fun id p h => by
    unfold muG at h
    split at h
    · rename_i hk; exact hk
    · cases h
  glob := fun k hk => by
    obtain ⟨z, hz⟩ := R.glob k hk
    exact ⟨z, by unfold muG; rw [if_pos hk]; exact hz⟩

theorem HG_own {gl : GL} {id : Nat} {b : Blk} (h : (HG gl).get id = some b) : b.own = false := by
  obtain ⟨e, cs, _, rfl⟩ := HG_get h
  rfl

theorem sumArg_ok {gl : GL} {as : List AV} {v : AV} {nx : Nat} {l : List SBlk} {k f : Nat} (xOK : HooksOK P ρ X []) (hx : X.ext f = none) (hm : P.follows .mixedOrders = true) (hgl : glOK gl = true) (hlow : avsLow as = true) (h : chkSum v nx l (run P X [] k f as (HG gl)) = true)
    (hfn : ∃ fn, P.funcs[f]? = some fn ∧ fn.body.isNone = false ∧ (fn.name == "runtime.NumGoroutine") = false) : FnOK P ρ (sumArg gl as v nx l pc) f := by
  intro args hh v' h' hr
  refine ⟨hfn, ?_⟩
  intro μ w us R hv
  unfold chkSum at h
  split at h
  · rename_i v1 h1 hrun
    simp only [Bool.and_eq_true] at h
    obtain ⟨hveq, hnx, hall⟩ := h
    have hveq := AV.beq_eq hveq
    subst hveq
    have hnx : h1.next ≤ nx := by simpa using hnx
    cases hab : avsBeq args as && hasG gl hh with
    | false => unfold sumArg at hr; rw [hab] at hr; cases hr
    | true =>
      have hr0 : Res.ok (v1.sh (hh.next - 64), (⟨nx + (hh.next - 64), laySum (hh.next - 64) hh.tr l⟩ : H)) = .ok (v', h') := by
        unfold sumArg at hr
        rw [hab] at hr
        exact hr
      simp only [Bool.and_eq_true] at hab
      have hgh := hab.2
      have hab := avsBeq_eq hab.1
      subst hab
      cases hr0
      have h64 : 64 ≤ hh.next := by obtain ⟨z, hz⟩ := R.glob 63 (by omega); have := R.fresh _ _ hz; omega
      refine callsIn_wide.2 ((run_sound xOK PC.holds_nil hm (RelGL R hgh hgl) (VRs_low hlow hv) hx hrun).mono ?_)
      rintro e w' ⟨x, μ1, rfl, hx, R1, S1, n1⟩
      have hsh := muS_sh h64 S1.le R.glob
      have n1 : 64 ≤ h1.next := n1
      have hkeep : ∀ b, b < w.heap.size → w'.heap[b]? = w.heap[b]? := fun b hb => S1.frame b hb fun id bk p h ho => by rw [HG_own h] at ho; cases ho
      have hnew : ∀ id b p, h1.get id = some b → μ1 id = some p → b.own = true → w.heap.size ≤ p.1 := by
        intro id b p h2 h3 hob
        rcases S1.own id b p h2 h3 with h4 | ⟨_, b', _, h4, _, _, h5⟩
        · exact h4
        · have h5 := h5 hob; rw [HG_own h4] at h5; cases h5
      have old : ∀ {j : Nat} {p : Loc}, μ j = some p → muS μ μ1 hh.next j = some p := by
        intro j p hj
        unfold muS
        rw [if_pos (R.fresh _ _ hj)]; exact hj
      have hi : ∀ {id : Nat}, 64 ≤ id → shI (hh.next - 64) id = id + (hh.next - 64) := by
        intro id hid
        unfold shI
        have : Nat.blt id 64 = false := by
          cases hb : Nat.blt id 64 with
          | false => rfl
          | true => have : id < 64 := by simpa using hb
                    omega
        rw [this]; rfl
      -- a block: old or new
      have two : ∀ {j : Nat} {b : Blk}, (laySum (hh.next - 64) hh.tr l).get j = some b →
          (hh.get j = some b) ∨ (∃ id b1 p o, j = id + (hh.next - 64) ∧ 64 ≤ id ∧ h1.get id = some b1 ∧ μ1 id = some p ∧ muS μ μ1 hh.next j = some p ∧ w'.heap[p.1]? = some o ∧ BR ρ (muS μ μ1 hh.next) p b o ∧ b.own = true ∧ b1.own = true ∧ w.heap.size ≤ p.1) := by
        intro j b hb
        rcases laySum_get hb with hb | ⟨id, opn, e, cs, q1, q2, q3⟩
        · exact .inl hb
        · right
          obtain ⟨r1, b1, p, o, r2, r3, r4, r5⟩ := chkBlk_BR R1 (fun _ _ h => h) hsh (List.all_eq_true.1 hall _ q1)
          have r6 := hsh _ _ r3
          rw [hi r1, ← q2] at r6
          have ho : b1.own = true := by
            have hc := List.all_eq_true.1 hall _ q1
            simp only [chkBlk, r2] at hc
            cases b1 with
            | cells own opn' e' m vals => cases own <;> first | rfl | simp at hc
            | _ => rfl
          exact ⟨id, b1, p, o, q2, r1, r2, r3, r6, r4, q3 ▸ r5, by rw [q3]; rfl, ho, hnew _ _ _ r2 r3 ho⟩
      have oldp : ∀ {j : Nat} {b : Blk} {p : Loc}, hh.get j = some b → muS μ μ1 hh.next j = some p → μ j = some p := by
        intro j b p hb hp
        obtain ⟨q, _, hq, _⟩ := R.blk _ _ hb
        rw [old hq] at hp
        cases hp
        exact hq
      refine ⟨x, muS μ μ1 hh.next, rfl, VR_sh hsh hx, ⟨?_, ?_, ?_, fun k hk => let ⟨z, hz⟩ := R.glob k hk; ⟨z, old hz⟩⟩, ⟨fun id p hp => old hp, ?_, ?_, S1.size, S1.tape, S1.os, S1.output, fun b hb _ => hkeep b hb, ?_, S1.fz⟩, ?_⟩
      · intro j b hb
        rcases two hb with hb | ⟨id, b1, p, o, q1, q2, q3, q4, q5, q6, q7, _⟩
        · obtain ⟨p, o, r1, r2, r3⟩ := R.blk _ _ hb
          exact ⟨p, o, old r1, by rw [hkeep _ (Array.getElem?_eq_some_iff.1 r2).1]; exact r2, BR_mono (fun _ _ h => old h) r3⟩
        · exact ⟨p, o, q5, q6, q7⟩
      · intro i j b b' p q hi' hj ho hne hp hq
        rcases two hi' with hi' | ⟨id, b1, p1, o, q1, q2, q3, q4, q5, q6, q7, q8, q9, q10⟩ <;> rcases two hj with hj | ⟨id', b2, p2, o', s1, s2, s3, s4, s5, s6, s7, s8, s9, s10⟩
        · exact R.inj i j b b' p q hi' hj ho hne (oldp hi' hp) (oldp hj hq)
        · rw [s5] at hq; cases hq
          have := R.lt hi' (oldp hi' hp)
          omega
        · rw [q5] at hp; cases hp
          have := R.lt hj (oldp hj hq)
          omega
        · rw [q5] at hp; cases hp
          rw [s5] at hq; cases hq
          exact R1.inj id id' b1 b2 _ _ q3 s3 q9 (fun e => hne (by rw [q1, s1, e])) q4 s4
      · intro id p hp
        show id < nx + (hh.next - 64)
        unfold muS at hp
        split at hp
        · omega
        · have := R1.fresh _ _ hp
          omega
      · intro id p hp
        unfold muS at hp
        split at hp
        · exact .inl hp
        · exact .inr (by omega)
      · intro j b hb
        rcases two hb with hb | ⟨id, b1, p, o, q1, q2, _⟩
        · exact .inl ⟨b, hb⟩
        · exact .inr (by omega)
      · intro j b p hb hp
        rcases two hb with hb | ⟨id, b1, p1, o, q1, q2, q3, q4, q5, q6, q7, q8, q9, q10⟩
        · exact .inr ⟨j, b, p, hb, oldp hb hp, rfl, fun h => h⟩
        · rw [q5] at hp; cases hp; exact .inl q10
      · show hh.next ≤ nx + (hh.next - 64)
        omega
  · cases h


theorem sumOr_ok {a b : PC → List AV → H → Res (AV × H)} {f : Nat} (ha : FnOK P ρ (a pc) f) (hb : FnOK P ρ (b pc) f) : FnOK P ρ (sumOr a b pc) f := by
  intro args h v h' hr
  unfold sumOr at hr
  split at hr
  · rename_i x e
    cases hr
    exact ha args h _ _ e
  · exact hb args h v h' hr

theorem sumNo_ok {f : Nat} : FnOK P ρ (sumNo pc) f := fun args h v h' hr => by cases hr

theorem sumTab_ok {gl : GL} {f k : Nat} (hgl : glOK gl = true) (xOK : HooksOK P ρ X []) (hx : X.ext f = none) (hm : P.follows .mixedOrders = true)
    (hfn : ∃ fn, P.funcs[f]? = some fn ∧ fn.body.isNone = false ∧ (fn.name == "runtime.NumGoroutine") = false) :
    ∀ {l : List SEnt}, l.all (chkEnt gl X P k f) = true → FnOK P ρ (sumTab gl l pc) f
  | [], _ => sumNo_ok
  | e :: r, h => by
    simp only [List.all_cons, Bool.and_eq_true] at h
    have h1 := h.1
    unfold chkEnt at h1
    simp only [Bool.and_eq_true] at h1
    exact sumOr_ok (sumArg_ok xOK hx hm hgl h1.1 h1.2 hfn) (sumTab_ok hgl xOK hx hm hfn h.2)

end
end Go.Ev
