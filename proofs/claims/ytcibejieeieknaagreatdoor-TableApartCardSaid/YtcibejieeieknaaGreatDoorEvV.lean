/- From the evaluator to a row of a law without input; no theorem of the program yet; no conditions. -/
import Derived.Test.YtcibejieeieknaaGreatDoorEvU
import Derived.KernelRfl
set_option linter.unusedSimpArgs false
set_option linter.unusedVariables false
namespace Go.Ev

/-- No summaries, no functions without a body, no methods. -/
def X0 : Hooks := ⟨fun _ => none, fun _ => none, fun _ _ => none⟩

theorem X0_ok {P : Program} {ρ : Env} {pc : PC} : HooksOK P ρ X0 pc := ⟨(fun _ _ h => by cases h), (fun _ _ h => by cases h), (fun _ _ _ h => by cases h)⟩

noncomputable def H0 : H := ⟨64, .nil⟩
def mu0 : Mu := fun k => if k < 64 then some (k, 0, 0) else none

theorem Rel0 {ρ : Env} {w : World} : Rel ρ mu0 H0.get H0.next w where
  blk := fun id b h => by cases (show (none : Option Blk) = some b from h)
  inj := fun i j b b' p q h => by cases (show (none : Option Blk) = some b from h)
  fresh := fun id p h => by
    unfold mu0 at h
    split at h
    · rename_i hk; exact hk
    · cases h
  glob := fun k hk => ⟨0, by unfold mu0; rw [if_pos hk]⟩

/-- Where the evaluator has owned nothing at the start, the world has only grown. -/
theorem Stp.kept {μ μ' : Mu} {g g' : G} {nx : Nat} {w w' : World} (S : Stp μ g nx w μ' g' w') (hg : ∀ id b, g id = some b → b.own = false) : w.keptBut w' (fun _ => False) := by
  refine ⟨S.os, S.output, fun i hi => ?_⟩
  have h := S.frame i hi fun id bk p h1 h2 _ => by rw [hg id bk h1] at h2; cases h2
  rw [h]
  have ho : w.heap[i]? = some w.heap[i] := Array.getElem?_eq_getElem hi
  rw [ho]
  cases w.heap[i] <;> simp

noncomputable def isTrue (r : Res (AV × H)) : Bool :=
  match r with
  | .ok (.bool (.lit true), _) => true
  | _ => false

/-- A function without arguments that tells 'true'. -/
theorem calls_true {P : Program} {k f : Nat} (hm : P.follows .mixedOrders = true) (h : isTrue (run P X0 [] k f [] H0) = true) (w : World) :
    Calls P f #[] w fun e w' => e = .returned (.bool true) ∧ w.keptBut w' (fun _ => False) := by
  unfold isTrue at h
  split at h
  · rename_i h' hr
    refine (run_sound (ρ := ⟨fun _ => 0, fun _ _ => 0, fun _ _ => false⟩) (μ := mu0) (us := #[]) X0_ok PC.holds_nil hm Rel0 (VRs_nil.2 rfl) rfl hr).mono ?_
    rintro e w' ⟨x, μ', rfl, h1, _, S, _⟩
    rw [VR] at h1
    subst h1
    exact ⟨rfl, S.kept fun id b h => by cases (show (none : Option Blk) = some b from h)⟩
  · cases h

end Go.Ev

/- Summaries of functions without input: what one run of the evaluator has told may be laid beside any heap; no theorem of the program yet; no conditions. -/
namespace Go.Ev

/-! ### Other numbers -/
noncomputable def shI (d id : Nat) : Nat := bif Nat.blt id 64 then id else id + d
noncomputable def shF (d : Nat) : Fn → Fn
  | .yield l => .yield (shI d l)
  | f => f
mutual
noncomputable def AV.sh (d : Nat) : AV → AV
  | .ptr id off => .ptr (shI d id) off
  | .slc id off len ex cap es => .slc (shI d id) off len ex cap es
  | .slv id off n l es => .slv (shI d id) off n l es
  | .ptrv id off es n e => .ptrv (shI d id) off es n e
  | .pick cs e => .pick (avsSh d cs) e
  | .map id => .map (shI d id)
  | .func f a b => .func (shF d f) (avsSh d a) (avsSh d b)
  | .iface t v => .iface t (v.sh d)
  | .agg cs => .agg (avsSh d cs)
  | .tup vs => .tup (avsSh d vs)
  | v => v
noncomputable def avsSh (d : Nat) : List AV → List AV
  | [] => []
  | a :: as => a.sh d :: avsSh d as
end

/-- A block of a summary: its number, whether it is open, its elements' type, its cells. -/
abbrev SBlk := Nat × Bool × Nat × List AV

noncomputable def laySum (d : Nat) (t : T Blk) : List SBlk → T Blk
  | [] => t
  | (id, opn, e, cs) :: l => laySum d (t.put (id + d) (.cells true opn e cs.length (T.puts .nil 0 (avsSh d cs)))) l

noncomputable def sumOf (v : AV) (nx : Nat) (l : List SBlk) : PC → List AV → H → Res (AV × H) := fun _ args h =>
  match args with
  | [] => .ok (v.sh (h.next - 64), ⟨nx + (h.next - 64), laySum (h.next - 64) h.tr l⟩)
  | _ => .fail "a summary of a function without arguments"

noncomputable def chkBlk (h : H) : SBlk → Bool
  | (id, opn, e, cs) =>
    Nat.ble 64 id && (match h.get id with
    | some (.cells true opn' e' m vals) => (opn == opn' && Nat.beq e e') && ((opn || Nat.beq cs.length m) && (Nat.ble cs.length m && (match vals.gets 0 cs.length with
      | some vs => avsBeq vs cs
      | none => false)))
    | _ => false)

noncomputable def chkSum (v : AV) (nx : Nat) (l : List SBlk) (r : Res (AV × H)) : Bool :=
  match r with
  | .ok (v', h) => v'.beq v && (Nat.ble h.next nx && l.all (chkBlk h))
  | _ => false

section
variable {ρ : Env} {μ1 μ' : Mu} {d : Nat}

theorem fnR_sh (h : ∀ id p, μ1 id = some p → μ' (shI d id) = some p) {f g : Fn} (hf : fnR μ1 f g) : fnR μ' (shF d f) g := by
  cases f <;> simp only [fnR, shF] at hf ⊢ <;> first
    | exact hf
    | (obtain ⟨p, h1, h2⟩ := hf; exact ⟨p, h _ _ h1, h2⟩)

mutual
theorem VR_sh (h : ∀ id p, μ1 id = some p → μ' (shI d id) = some p) : ∀ {a : AV} {v : Value}, VR ρ μ1 a v → VR ρ μ' (a.sh d) v
  | .int _ _, _, hv => by simp only [AV.sh, VR] at hv ⊢; exact hv
  | .bool _, _, hv => by simp only [AV.sh, VR] at hv ⊢; exact hv
  | .str _ _, _, hv => by simp only [AV.sh, VR] at hv ⊢; exact hv
  | .nilp, _, hv => by simp only [AV.sh, VR] at hv ⊢; exact hv
  | .ptr id off, _, hv => by
    simp only [AV.sh, VR] at hv ⊢
    obtain ⟨p, h1, h2⟩ := hv
    exact ⟨p, h _ _ h1, h2⟩
  | .nils, _, hv => by simp only [AV.sh, VR] at hv ⊢; exact hv
  | .slc .., _, hv => by
    simp only [AV.sh, VR] at hv ⊢
    obtain ⟨p, c, h1, h2⟩ := hv
    exact ⟨p, c, h _ _ h1, h2⟩
  | .emp, _, hv => by simp only [AV.sh, VR] at hv ⊢; exact hv
  | .slv .., _, hv => by
    simp only [AV.sh, VR] at hv ⊢
    obtain ⟨p, c, m, h0, h1, h2⟩ := hv
    exact ⟨p, c, m, h0, h _ _ h1, h2⟩
  | .ptrv .., _, hv => by
    simp only [AV.sh, VR] at hv ⊢
    obtain ⟨p, j, h1, h2⟩ := hv
    exact ⟨p, j, h _ _ h1, h2⟩
  | .pick _ _, _, hv => by
    simp only [AV.sh, VR] at hv ⊢
    obtain ⟨j, h1, h2, h3⟩ := hv
    exact ⟨j, h1, VRn_sh h h2, h3⟩
  | .nilm, _, hv => by simp only [AV.sh, VR] at hv ⊢; exact hv
  | .map _, _, hv => by
    simp only [AV.sh, VR] at hv ⊢
    obtain ⟨p, h1, h2⟩ := hv
    exact ⟨p, h _ _ h1, h2⟩
  | .nilf, _, hv => by simp only [AV.sh, VR] at hv ⊢; exact hv
  | .func _ _ _, _, hv => by
    simp only [AV.sh, VR] at hv ⊢
    obtain ⟨f, a, b, h1, h2, h3, h4⟩ := hv
    exact ⟨f, a, b, h1, fnR_sh h h2, VRs_sh h h3, VRs_sh h h4⟩
  | .nili, _, hv => by simp only [AV.sh, VR] at hv ⊢; exact hv
  | .iface _ _, _, hv => by
    simp only [AV.sh, VR] at hv ⊢
    obtain ⟨y, h1, h2⟩ := hv
    exact ⟨y, h1, VR_sh h h2⟩
  | .agg _, _, hv => by
    simp only [AV.sh, VR] at hv ⊢
    obtain ⟨ys, h1, h2⟩ := hv
    exact ⟨ys, h1, VRs_sh h h2⟩
  | .tup _, _, hv => by
    simp only [AV.sh, VR] at hv ⊢
    obtain ⟨ys, h1, h2⟩ := hv
    exact ⟨ys, h1, VRs_sh h h2⟩
theorem VRs_sh (h : ∀ id p, μ1 id = some p → μ' (shI d id) = some p) : ∀ {as : List AV} {vs : List Value}, VRs ρ μ1 as vs → VRs ρ μ' (avsSh d as) vs
  | [], _, hv => by simp only [avsSh, VRs] at hv ⊢; exact hv
  | _ :: _, _, hv => by
    simp only [avsSh, VRs] at hv ⊢
    obtain ⟨y, r, h1, h2, h3⟩ := hv
    exact ⟨y, r, h1, VR_sh h h2, VRs_sh h h3⟩
theorem VRn_sh (h : ∀ id p, μ1 id = some p → μ' (shI d id) = some p) : ∀ {as : List AV} {j : Nat} {v : Value}, VRn ρ μ1 as j v → VRn ρ μ' (avsSh d as) j v
  | [], _, _, hv => by simp only [VRn] at hv
  | _ :: _, 0, _, hv => by simp only [avsSh, VRn] at hv ⊢; exact VR_sh h hv
  | _ :: as, j + 1, _, hv => by simp only [avsSh, VRn] at hv ⊢; exact VRn_sh (as := as) (j := j) h hv
end
end

end Go.Ev

/- Summaries of functions without input hold of the model; no theorem of the program yet; no conditions. -/
namespace Go.Ev
section
variable {ρ : Env} {P : Program} {pc : PC}

theorem laySum_get {d : Nat} : ∀ {l : List SBlk} {t : T Blk} {j : Nat} {b : Blk}, (laySum d t l).get j = some b →
    t.get j = some b ∨ ∃ id opn e cs, (id, opn, e, cs) ∈ l ∧ j = id + d ∧ b = .cells true opn e cs.length (T.puts .nil 0 (avsSh d cs)) := by
  intro l
  induction l with
  | nil => intro t j b h; exact .inl h
  | cons x l ih =>
    obtain ⟨id, opn, e, cs⟩ := x
    intro t j b h
    rcases ih h with h | ⟨id', opn', e', cs', h1, h2, h3⟩
    · rw [T.get_put] at h
      split at h
      · rename_i ej; cases h; exact .inr ⟨id, opn, e, cs, List.mem_cons_self, ej, rfl⟩
      · exact .inl h
    · exact .inr ⟨id', opn', e', cs', List.mem_cons_of_mem _ h1, h2, h3⟩

theorem avsSh_length {d : Nat} : ∀ {cs : List AV}, (avsSh d cs).length = cs.length := by
  intro cs
  induction cs with
  | nil => rfl
  | cons c cs ih => simp [avsSh, ih]

/-- The globals alone. -/
def muG (μ : Mu) : Mu := fun k => if k < 64 then μ k else none

theorem RelG {μ : Mu} {g : G} {nx : Nat} {w : World} (R : Rel ρ μ g nx w) : Rel ρ (muG μ) H0.get H0.next w where
  blk := fun id b h => by cases (show (none : Option Blk) = some b from h)
  inj := fun i j b b' p q h => by cases (show (none : Option Blk) = some b from h)
  fresh := fun id p h => by
    unfold muG at h
    split at h
    · rename_i hk; exact hk
    · cases h
  glob := fun k hk => by
    obtain ⟨z, hz⟩ := R.glob k hk
    exact ⟨z, by unfold muG; rw [if_pos hk]; exact hz⟩

end
end Go.Ev

/- A summary of a function without input holds of the model; no theorem of the program yet; no conditions. -/
namespace Go.Ev
section
variable {ρ : Env} {P : Program} {pc : PC}

/-- Numbers of the one run beside those of a heap. -/
def muS (μ μ1 : Mu) (nx : Nat) : Mu := fun id => if id < nx then μ id else μ1 (id - (nx - 64))

theorem muS_sh {μ μ1 : Mu} {nx : Nat} (h64 : 64 ≤ nx) (hle : (muG μ).le μ1) (hg : ∀ k, k < 64 → ∃ z, μ k = some (k, 0, z)) : ∀ id p, μ1 id = some p → muS μ μ1 nx (shI (nx - 64) id) = some p := by
  intro id p h
  unfold muS shI
  cases hb : Nat.blt id 64 with
  | true =>
    have hid : id < 64 := by simpa using hb
    simp only [cond_true]
    rw [if_pos (by omega)]
    obtain ⟨z, hz⟩ := hg id hid
    have h2 : muG μ id = some (id, 0, z) := by unfold muG; rw [if_pos hid]; exact hz
    rw [hle _ _ h2] at h
    cases h
    exact hz
  | false =>
    have hid : ¬ id < 64 := by
      have : ¬ (Nat.blt id 64 = true) := by simp [hb]
      simpa using this
    simp only [cond_false]
    rw [if_neg (by omega)]
    rw [← h]; congr 1; omega

theorem puts_get {cs : List AV} {j : Nat} {v : AV} (h : (T.puts .nil 0 cs).get j = some v) : cs[j]? = some v := by
  rw [T.get_puts] at h
  split at h
  · simpa using h
  · rw [T.get_nil] at h; cases h

theorem avsSh_get {d : Nat} : ∀ {cs : List AV} {j : Nat} {v : AV}, (avsSh d cs)[j]? = some v → ∃ u, cs[j]? = some u ∧ v = u.sh d := by
  intro cs
  induction cs with
  | nil => intro j v h; simp [avsSh] at h
  | cons c cs ih =>
    intro j v h
    cases j with
    | zero => simp [avsSh] at h; exact ⟨c, rfl, h.symm⟩
    | succ j => simp [avsSh] at h; obtain ⟨u, h1, h2⟩ := ih h; exact ⟨u, by simpa using h1, h2⟩

/-- A block of a summary stands for what the run's block stands for. -/
theorem chkBlk_BR {μ1 μ' : Mu} {d : Nat} {h1 : H} {g : G} {nx : Nat} {w : World} (R : Rel ρ μ1 g nx w) (hg : ∀ id b, h1.get id = some b → g id = some b) (hsh : ∀ id p, μ1 id = some p → μ' (shI d id) = some p) {id : Nat} {opn : Bool} {e : Nat} {cs : List AV}
    (h : chkBlk h1 (id, opn, e, cs) = true) : 64 ≤ id ∧ ∃ b p o, g id = some b ∧ μ1 id = some p ∧ w.heap[p.1]? = some o ∧ BR ρ μ' p (.cells true opn e cs.length (T.puts .nil 0 (avsSh d cs))) o := by
  unfold chkBlk at h
  simp only [Bool.and_eq_true] at h
  obtain ⟨h64, h⟩ := h
  refine ⟨by simpa using h64, ?_⟩
  split at h
  · rename_i opn' e' m vals hb
    simp only [Bool.and_eq_true, Bool.or_eq_true] at h
    obtain ⟨⟨k1, k2⟩, k3, k4, k5⟩ := h
    have k1 := eq_of_beq k1
    have k2 := beq_eq k2
    subst k1; subst k2
    have k4 : cs.length ≤ m := by simpa using k4
    split at k5
    · rename_i vs hvs
      have := avsBeq_eq k5
      subst this
      obtain ⟨g1, g2⟩ := T.gets_spec _ _ _ _ hvs
      obtain ⟨p, o, hp, ho, c, e2, fr, rfl, f1, f2, f3, f4⟩ := R.blk _ _ (hg _ _ hb)
      obtain ⟨f5, rfl, rfl, f6⟩ := f3 rfl
      refine ⟨_, p, _, hg _ _ hb, hp, ho, c, _, (0, 0), rfl, f1, by omega, fun _ => ⟨f5, rfl, rfl, fun ho' => ?_⟩, ?_⟩
      · rcases k3 with k3 | k3
        · rw [ho'] at k3; cases k3
        · rw [beq_eq k3]; exact f6 ho'
      · intro j v hj hv
        obtain ⟨u, h2, rfl⟩ := avsSh_get (puts_get hv)
        have h3 := g2 j u h2
        rw [Nat.zero_add] at h3
        obtain ⟨x, h4, h5⟩ := f4 j u (by omega) h3
        exact ⟨x, h4, VR_sh hsh h5⟩
    · cases k5
  · cases h

end
end Go.Ev

/- A summary of a function without input holds of the model; no theorem of the program yet; no conditions. -/
namespace Go.Ev
section
variable {ρ : Env} {P : Program} {pc : PC}

theorem sum_ok {v : AV} {nx : Nat} {l : List SBlk} {k f : Nat} (hm : P.follows .mixedOrders = true) (h : chkSum v nx l (run P X0 [] k f [] H0) = true)
    (hfn : ∃ fn, P.funcs[f]? = some fn ∧ fn.body.isNone = false ∧ (fn.name == "runtime.NumGoroutine") = false) : FnOK P ρ (sumOf v nx l pc) f := by
  intro args hh v' h' hr
  refine ⟨hfn, ?_⟩
  intro μ w us R hv
  unfold chkSum at h
  split at h
  · rename_i v1 h1 hrun
    simp only [Bool.and_eq_true] at h
    obtain ⟨hveq, hnx, hall⟩ := h
    have hveq := AV.beq_eq hveq
    subst hveq
    have hnx : h1.next ≤ nx := by simpa using hnx
    cases args with
    | cons a as => cases hr
    | nil =>
      have hr0 : Res.ok (v1.sh (hh.next - 64), (⟨nx + (hh.next - 64), laySum (hh.next - 64) hh.tr l⟩ : H)) = .ok (v', h') := hr
      cases hr0
      rw [VRs_nil] at hv
      have hus : us = #[] := by apply Array.ext'; simpa using hv
      subst hus
      have h64 : 64 ≤ hh.next := by obtain ⟨z, hz⟩ := R.glob 63 (by omega); have := R.fresh _ _ hz; omega
      refine callsIn_wide.2 ((run_sound X0_ok PC.holds_nil hm (RelG R) (VRs_nil.2 rfl) rfl hrun).mono ?_)
      rintro e w' ⟨x, μ1, rfl, hx, R1, S1, n1⟩
      have hsh := muS_sh h64 S1.le R.glob
      have n1 : 64 ≤ h1.next := n1
      have hkeep : ∀ b, b < w.heap.size → w'.heap[b]? = w.heap[b]? := fun b hb => S1.frame b hb fun id bk p h => by cases (show (none : Option Blk) = some bk from h)
      have hnew : ∀ id b p, h1.get id = some b → μ1 id = some p → w.heap.size ≤ p.1 := by
        intro id b p h2 h3
        rcases S1.own id b p h2 h3 with h4 | ⟨_, b', _, h4, _⟩
        · exact h4
        · cases (show (none : Option Blk) = some b' from h4)
      have old : ∀ {j : Nat} {p : Loc}, μ j = some p → muS μ μ1 hh.next j = some p := by
        intro j p hj
        unfold muS
        rw [if_pos (R.fresh _ _ hj)]; exact hj
      have hi : ∀ {id : Nat}, 64 ≤ id → shI (hh.next - 64) id = id + (hh.next - 64) := by
        intro id hid
        unfold shI
        have : Nat.blt id 64 = false := by
          cases hb : Nat.blt id 64 with
          | false => rfl
          | true => have : id < 64 := by simpa using hb
                    omega
        rw [this]; rfl
      -- a block: old or new
      have two : ∀ {j : Nat} {b : Blk}, (laySum (hh.next - 64) hh.tr l).get j = some b →
          (hh.get j = some b) ∨ (∃ id b1 p o, j = id + (hh.next - 64) ∧ 64 ≤ id ∧ h1.get id = some b1 ∧ μ1 id = some p ∧ muS μ μ1 hh.next j = some p ∧ w'.heap[p.1]? = some o ∧ BR ρ (muS μ μ1 hh.next) p b o ∧ b.own = true ∧ b1.own = true ∧ w.heap.size ≤ p.1) := by
        intro j b hb
        rcases laySum_get hb with hb | ⟨id, opn, e, cs, q1, q2, q3⟩
        · exact .inl hb
        · right
          obtain ⟨r1, b1, p, o, r2, r3, r4, r5⟩ := chkBlk_BR R1 (fun _ _ h => h) hsh (List.all_eq_true.1 hall _ q1)
          have r6 := hsh _ _ r3
          rw [hi r1, ← q2] at r6
          have ho : b1.own = true := by
            have hc := List.all_eq_true.1 hall _ q1
            simp only [chkBlk, r2] at hc
            cases b1 with
            | cells own opn' e' m vals => cases own <;> first | rfl | simp at hc
            | _ => first | rfl | simp at hc
          exact ⟨id, b1, p, o, q2, r1, r2, r3, r6, r4, q3 ▸ r5, by rw [q3]; rfl, ho, hnew _ _ _ r2 r3⟩
      have oldp : ∀ {j : Nat} {b : Blk} {p : Loc}, hh.get j = some b → muS μ μ1 hh.next j = some p → μ j = some p := by
        intro j b p hb hp
        obtain ⟨q, _, hq, _⟩ := R.blk _ _ hb
        rw [old hq] at hp
        cases hp
        exact hq
      refine ⟨x, muS μ μ1 hh.next, rfl, VR_sh hsh hx, ⟨?_, ?_, ?_, fun k hk => let ⟨z, hz⟩ := R.glob k hk; ⟨z, old hz⟩⟩, ⟨fun id p hp => old hp, ?_, ?_, S1.size, S1.tape, S1.os, S1.output, fun b hb _ => hkeep b hb, ?_, S1.fz⟩, ?_⟩
      · intro j b hb
        rcases two hb with hb | ⟨id, b1, p, o, q1, q2, q3, q4, q5, q6, q7, _⟩
        · obtain ⟨p, o, r1, r2, r3⟩ := R.blk _ _ hb
          exact ⟨p, o, old r1, by rw [hkeep _ (Array.getElem?_eq_some_iff.1 r2).1]; exact r2, BR_mono (fun _ _ h => old h) r3⟩
        · exact ⟨p, o, q5, q6, q7⟩
      · intro i j b b' p q hi' hj ho hne hp hq
        rcases two hi' with hi' | ⟨id, b1, p1, o, q1, q2, q3, q4, q5, q6, q7, q8, q9, q10⟩ <;> rcases two hj with hj | ⟨id', b2, p2, o', s1, s2, s3, s4, s5, s6, s7, s8, s9, s10⟩
        · exact R.inj i j b b' p q hi' hj ho hne (oldp hi' hp) (oldp hj hq)
        · rw [s5] at hq; cases hq
          have := R.lt hi' (oldp hi' hp)
          omega
        · rw [q5] at hp; cases hp
          have := R.lt hj (oldp hj hq)
          omega
        · rw [q5] at hp; cases hp
          rw [s5] at hq; cases hq
          exact R1.inj id id' b1 b2 _ _ q3 s3 q9 (fun e => hne (by rw [q1, s1, e])) q4 s4
      · intro id p hp
        show id < nx + (hh.next - 64)
        unfold muS at hp
        split at hp
        · omega
        · have := R1.fresh _ _ hp
          omega
      · intro id p hp
        unfold muS at hp
        split at hp
        · exact .inl hp
        · exact .inr (by omega)
      · intro j b hb
        rcases two hb with hb | ⟨id, b1, p, o, q1, q2, _⟩
        · exact .inl ⟨b, hb⟩
        · exact .inr (by omega)
      · intro j b p hb hp
        rcases two hb with hb | ⟨id, b1, p1, o, q1, q2, q3, q4, q5, q6, q7, q8, q9, q10⟩
        · exact .inr ⟨j, b, p, hb, oldp hb hp, rfl, fun h => h⟩
        · rw [q5] at hp; cases hp; exact .inl q10
      · show hh.next ≤ nx + (hh.next - 64)
        omega
  · cases h

end
end Go.Ev
