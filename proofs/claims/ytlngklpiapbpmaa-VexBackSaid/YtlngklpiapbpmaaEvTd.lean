/- Regions whose order is open, the simulation; no theorem of the program yet; no conditions. -/
import Derived.Test.YtlngklpiapbpmaaEvTc
set_option linter.unusedSimpArgs false
set_option linter.unusedVariables false
namespace Go.Ev
section
variable {ρ : Env} {P : Program} {pc : PC} {X : Hooks} {r : Rec} {fr : Fr} {ro : Option Nat} {ops : Array Oper} {bs : List Nat} {base : Nat} {ms : List Nat} {val : Nat → Option AV} {blk : Nat → Option Blk} {tm0 tmE : Tm} {hE : H} {snE : Snaps} {full : Nat}
variable {μ0 : Mu} {g0 : G} {w0 : World} {T : Tr}

/-- The heap of the evaluator's beginning, with the blocks that have been made ahead of time. -/
noncomputable def gOf (blk : Nat → Option Blk) (base : Nat) (h : H) (Ts : Tr) (D : Nat → Bool) : G := fun id => if base ≤ id ∧ D (id - base) = true ∧ id - base ∈ Ts.map (·.1) then blk (id - base) else h.get id

structure Inv (ρ : Env) (P : Program) (pc : PC) (X : Hooks) (r : Rec) (fr : Fr) (ops : Array Oper) (bs : List Nat) (base : Nat) (ms : List Nat) (val : Nat → Option AV) (blk : Nat → Option Blk) (tm0 tmE : Tm) (hE : H) (snE : Snaps) (full : Nat)
    (μ0 : Mu) (g0 : G) (w0 : World) (T : Tr) (D : Nat → Bool) (μ : Mu) (a : Act) (w : World) (Ts : Tr) (tm : Tm) (h : H) (sn : Snaps) (done : Nat) : Prop where
  al : Along P pc X r fr ops bs base Ts tm h sn done tmE hE snE full
  sub : ∀ x ∈ Ts, x ∈ T
  tmc : ∀ t, tm.get t = tmD ops val tm0 (bit done) t
  clc : ∀ j k, bit done j = true → bit ((nth bs j).getD 0) k = true → bit done k = true
  dD : ∀ i, bit done i = true → D i = true
  anc : ∀ x ∈ Ts, ∀ o, ops[x.1]? = some o → D x.1 = true → (kindO P o.op).isAnchor = false
  cl : ∀ j k, j < ops.size → D j = true → bit ((nth bs j).getD 0) k = true → D k = true
  rel : Rel ρ μ (gOf blk base h Ts D) h.next w
  nx : base + ops.size ≤ h.next
  non : ∀ i, i < ops.size → D i = false → μ (base + i) = none
  hn : ∀ x ∈ Ts, h.get (base + x.1) = none
  tms : ∀ t v, tmD ops val tm0 D t = some v → ∃ x, a.tmps[t]? = some x ∧ VR ρ μ v x
  size : a.tmps.size = fr.nt
  dfr : DR μ ms a.defers
  stp : Stp μ0 g0 base w0 μ (gOf blk base h Ts D) w
  all : ∀ i, i < ops.size → bit done i = true ∨ i ∈ Ts.map (·.1)

theorem tms_put (F : Form ops bs) {μ μ' : Mu} {a : Act} {i : Nat} {o : Oper} (ho : ops[i]? = some o) {D E : Nat → Bool} (hE : ∀ j, E j = (D j || decide (j = i))) (hD : D i = false)
    (hcl : ∀ j k, j < ops.size → D j = true → bit ((nth bs j).getD 0) k = true → D k = true) (hle : μ.le μ')
    (tms : ∀ t v, tmD ops val tm0 D t = some v → ∃ x, a.tmps[t]? = some x ∧ VR ρ μ v x) (hsz : ∀ d, o.dst = some d → d < a.tmps.size) {x : Value} (hx : ∀ b, val i = some b → VR ρ μ' b x) :
    ∀ t v, tmD ops val tm0 E t = some v → ∃ y, (a.put o.dst x).tmps[t]? = some y ∧ VR ρ μ' v y := by
  intro t v ht
  rw [tmD_put F ho hE hD hcl t] at ht
  by_cases h : o.dst = some t
  · rw [if_pos h] at ht
    rw [h]
    exact ⟨x, by simp only [Act.put]; rw [Array.getElem?_setIfInBounds_self_of_lt (hsz t h)], hx v ht⟩
  · rw [if_neg h] at ht
    obtain ⟨y, h1, h2⟩ := tms t v ht
    refine ⟨y, ?_, VR_mono hle h2⟩
    cases hd : o.dst with
    | none => exact h1
    | some d =>
      simp only [Act.put]
      rw [Array.getElem?_setIfInBounds_ne (fun e => h (by rw [hd, e]))]
      exact h1

theorem put_size (a : Act) (d : Option Nat) (x : Value) : (a.put d x).tmps.size = a.tmps.size ∧ (a.put d x).defers = a.defers := by
  cases d <;> simp [Act.put]

/-- One more of the operations that are no anchors. -/
theorem Inv.more (F : Form ops bs) {D E : Nat → Bool} {μ μ' : Mu} {a : Act} {w w' : World} {Ts : Tr} {tm : Tm} {h : H} {sn : Snaps} {done i : Nat} {o : Oper} {x : Value}
    (I : Inv ρ P pc X r fr ops bs base ms val blk tm0 tmE hE snE full μ0 g0 w0 T D μ a w Ts tm h sn done) (ho : ops[i]? = some o) (hEq : ∀ j, E j = (D j || decide (j = i))) (hD : D i = false)
    (hB : ∀ k, bit ((nth bs i).getD 0) k = true → D k = true) (hk : (kindO P o.op).isAnchor = false) (hsz : ∀ d, o.dst = some d → d < fr.nt) (hle : μ.le μ')
    (hrel : Rel ρ μ' (gOf blk base h Ts E) h.next w') (hstp : Stp μ0 g0 base w0 μ' (gOf blk base h Ts E) w') (hnon : ∀ j, j ≠ i → μ' (base + j) = μ (base + j)) (hx : ∀ b, val i = some b → VR ρ μ' b x) :
    Inv ρ P pc X r fr ops bs base ms val blk tm0 tmE hE snE full μ0 g0 w0 T E μ' (a.put o.dst x) w' Ts tm h sn done where
  al := I.al
  sub := I.sub
  tmc := I.tmc
  clc := I.clc
  dD := fun j hj => by rw [hEq, I.dD j hj]; rfl
  anc := fun y hy o' ho' hd => by
    rw [hEq] at hd
    by_cases e : y.1 = i
    · rw [e, ho] at ho'; cases ho'; exact hk
    · simp only [e, decide_false, Bool.or_false] at hd
      exact I.anc y hy o' ho' hd
  cl := fun j k hj hd hb => by
    rw [hEq] at hd ⊢
    by_cases e : j = i
    · subst e; rw [hB k hb]; rfl
    · simp only [e, decide_false, Bool.or_false] at hd
      rw [I.cl j k hj hd hb]; rfl
  rel := hrel
  nx := I.nx
  non := fun j hj hd => by
    rw [hEq, Bool.or_eq_false_iff] at hd
    rw [hnon j (by simpa using hd.2)]
    exact I.non j hj hd.1
  hn := I.hn
  tms := tms_put F ho hEq hD I.cl hle I.tms (fun d hd => by rw [I.size]; exact hsz d hd) hx
  size := by rw [(put_size a o.dst x).1]; exact I.size
  dfr := by rw [(put_size a o.dst x).2]; exact DR_mono hle I.dfr
  stp := hstp
  all := I.all

theorem gOf_none {h : H} {Ts : Tr} {D E : Nat → Bool} {i : Nat} (hEq : ∀ j, E j = (D j || decide (j = i))) (hb : blk i = none) (hg : (gOf blk base h Ts D) (base + i) = none) (hD : D i = false) : gOf blk base h Ts E = gOf blk base h Ts D := by
  funext id
  unfold gOf at hg ⊢
  by_cases e : id = base + i
  · subst e
    have e1 : base + i - base = i := by omega
    simp only [e1, hD, Bool.false_eq_true, false_and, and_false, if_false] at hg ⊢
    rw [hb, hg]
    split <;> rfl
  · by_cases hbase : base ≤ id
    · have : ¬ id - base = i := by omega
      simp only [hEq, this, decide_false, Bool.or_false]
    · simp only [hbase, false_and, if_false]

theorem gOf_some {h : H} {Ts : Tr} {D E : Nat → Bool} {i : Nat} {b : Blk} (hEq : ∀ j, E j = (D j || decide (j = i))) (hb : blk i = some b) (hm : i ∈ Ts.map (·.1)) : gOf blk base h Ts E = upd (gOf blk base h Ts D) (base + i) (some b) := by
  funext id
  unfold gOf upd
  by_cases e : id = base + i
  · subst e
    have e1 : base + i - base = i := by omega
    rw [if_pos rfl, if_pos ⟨by omega, by rw [hEq, e1]; simp, by rw [e1]; exact hm⟩, e1, hb]
  · rw [if_neg e]
    by_cases hbase : base ≤ id
    · have : ¬ id - base = i := by omega
      simp only [hEq, this, decide_false, Bool.or_false]
    · simp only [hbase, false_and, if_false]

theorem Stp.beside {μ μ1 μ' : Mu} {g x g' y : G} {nx nx0 : Nat} {w w1 w' : World} {gs : G} (S0 : Stp μ gs nx0 w μ1 x w1) (hgx : ∀ id b, g id = some b → x id = some b) (hxm : ∀ id b, x id = some b → ∃ p, μ1 id = some p)
    (S : Stp μ1 g nx w1 μ' g' w') (hy : ∀ id b, y id = some b → g' id = some b ∨ x id = some b) (hn : nx0 ≤ nx) : Stp μ gs nx0 w μ' y w' := by
  refine Stp.trans S0 (nx1 := nx) ⟨S.le, S.new, ?_, S.size, S.tape, S.os, S.output, ?_, ?_, S.fz⟩ hn
  · intro id b h
    rcases hy id b h with h | h
    · rcases S.ids id b h with ⟨b', h⟩ | h
      · exact .inl ⟨b', hgx _ _ h⟩
      · exact .inr h
    · exact .inl ⟨b, h⟩
  · intro b hb hno
    exact S.frame b hb fun id bk p h1 h2 h3 => hno id bk p (hgx _ _ h1) h2 h3
  · intro id bk p h hp
    rcases hy id bk h with h | h
    · rcases S.own id bk p h hp with h | ⟨id', bk', p', h1, h2, h3, h4⟩
      · exact .inl h
      · exact .inr ⟨id', bk', p', hgx _ _ h1, h2, h3, h4⟩
    · obtain ⟨q, hq⟩ := hxm id bk h
      have := S.le _ _ hq
      rw [hp] at this
      cases this
      exact .inr ⟨id, bk, p, h, hq, rfl, fun h => h⟩

/-! ### What is ready -/
def dOf (listed : Array Bool) (i : Nat) : Bool := listed.getD i false

theorem ready_spec {listed : Array Bool} (hs : listed.size = ops.size) {i : Nat} : i ∈ Region.ready .any ops listed ↔ ∃ o, ops[i]? = some o ∧ dOf listed i = false ∧ ∀ j ∈ ons o, dOf listed j = true := by
  unfold Region.ready
  rw [List.mem_filter, List.mem_range]
  have hget : ∀ {i}, i < ops.size → listed.getD i true = dOf listed i := by
    intro i hi
    unfold dOf
    simp [Array.getD_eq_getD_getElem?, Array.getElem?_eq_getElem (show i < listed.size by omega)]
  have hons : ∀ {o : Oper}, (o.after.all fun e => !Region.binds .any e || listed.getD e.on false) = true ↔ ∀ j ∈ ons o, dOf listed j = true := by
    intro o
    unfold ons
    rw [Array.all_eq_true']
    constructor
    · intro h j hj
      obtain ⟨e, he, h2⟩ := List.mem_filterMap.1 hj
      split at h2
      · rename_i hb
        cases h2
        have := h e (by simpa using he)
        simpa [hb, dOf] using this
      · cases h2
    · intro h e he
      cases hb : Region.binds .any e with
      | false => rfl
      | true =>
        simp only [Bool.not_true, Bool.false_or]
        exact h e.on (List.mem_filterMap.2 ⟨e, by simpa using he, by rw [hb]; rfl⟩)
  constructor
  · rintro ⟨hi, h⟩
    simp only [Bool.and_eq_true, Bool.not_eq_true'] at h
    rw [hget hi] at h
    have ho : ops[i]? = some ops[i] := Array.getElem?_eq_getElem hi
    rw [ho] at h
    exact ⟨ops[i], ho, h.1, hons.1 (by simpa using h.2)⟩
  · rintro ⟨o, ho, h1, h2⟩
    have hi := (Array.getElem?_eq_some_iff.1 ho).1
    refine ⟨hi, ?_⟩
    simp only [Bool.and_eq_true, Bool.not_eq_true']
    rw [hget hi, ho]
    exact ⟨h1, by simpa using hons.2 h2⟩

theorem ready_nil (F : Form ops bs) {listed : Array Bool} (hs : listed.size = ops.size) (h : Region.ready .any ops listed = []) : ∀ i, i < ops.size → dOf listed i = true := by
  intro i
  induction i using Nat.strongRecOn with
  | _ i ih =>
    intro hi
    cases hd : dOf listed i with
    | true => rfl
    | false =>
      exfalso
      have ho : ops[i]? = some ops[i] := Array.getElem?_eq_getElem hi
      have : i ∈ Region.ready .any ops listed := (ready_spec hs).2 ⟨_, ho, hd, fun j hj => by
        have hlt := F.low i _ ho j hj
        exact ih j hlt (by omega)⟩
      rw [h] at this
      cases this

theorem dOf_set {listed : Array Bool} {i : Nat} (hi : i < listed.size) (j : Nat) : dOf (listed.setIfInBounds i true) j = (dOf listed j || decide (j = i)) := by
  unfold dOf
  simp only [Array.getD_eq_getD_getElem?]
  by_cases e : j = i
  · subst e; rw [Array.getElem?_setIfInBounds_self_of_lt hi]; simp
  · rw [Array.getElem?_setIfInBounds_ne (fun h => e h.symm)]; simp [e]

end
end Go.Ev
