/- The evaluator's other plain operations are the model's; no theorem of the program yet; no conditions. -/
import Derived.Test.YtlngklpiapbpmaaEvI
import Derived.Great.FillDense
set_option linter.unusedSimpArgs false
set_option linter.unusedVariables false
namespace Go.Ev
section
variable {ρ : Env} {μ : Mu} {P : Program} {pc : PC} {w : World}

/-! ### Lengths -/
theorem lenA_spec {t : Nat} {a r : AV} {v : Value} {ts : Array TypeId} {vs : Array Value} {ty : TypeId} (ht : ts[0]? = some t) (hvs : vs[0]? = some v) (hv : VR ρ μ a v) (h : lenA P t a = .ok r) :
    ∃ y, (Builtin.len_ ts ty vs).run P w = .ok y w ∧ VR ρ μ r y := by
  unfold lenA at h
  obtain ⟨ti, h1, h0⟩ := Res.bind_eq_ok h
  clear h
  have hi := tdR_spec h1
  split at h0
  · rename_i n bs hd
    cases h0
    rw [VR] at hv
    obtain ⟨s, rfl, hs⟩ := hv
    refine ⟨goInt s.size, by simp [Builtin.len_, ht, hvs, run_und (td_str hi hd)], ?_⟩
    rw [VR, SR_size hs]; rfl
  · rename_i hd
    cases h0
    exact ⟨goInt _, by simp only [Builtin.len_, ht, hvs, run_und (td_arr hi hd), Sem.run_bind, Result.andThen_ok]; rfl, by rw [VR]; rfl⟩
  · rename_i e _ hd
    obtain ⟨ta, h2, h3⟩ := Res.bind_eq_ok h0
    clear h0
    split at h3
    · rename_i n _ hd2
      cases h3
      exact ⟨goInt n, by simp [Builtin.len_, ht, hvs, run_und (td_ptr hi hd), run_und (td_arr (tdR_spec h2) hd2)], by rw [VR]; rfl⟩
    · cases h3
  · rename_i hd
    cases h0
    rw [VR] at hv
    obtain ⟨p, c, _, rfl, _⟩ := hv
    exact ⟨goInt _, by simp only [Builtin.len_, ht, hvs, run_und (td_slc hi hd), Sem.run_bind, Result.andThen_ok]; rfl, by rw [VR]; rfl⟩
  · rename_i hd
    cases h0
    rw [VR] at hv
    subst hv
    exact ⟨goInt 0, by simp only [Builtin.len_, ht, hvs, run_und (td_slc hi hd), Sem.run_bind, Result.andThen_ok]; rfl, by rw [VR]; rfl⟩
  · rename_i hd
    cases h0
    rw [VR] at hv
    obtain ⟨_, c, rfl⟩ := hv
    exact ⟨goInt 0, by simp only [Builtin.len_, ht, hvs, run_und (td_slc hi hd), Sem.run_bind, Result.andThen_ok]; rfl, by rw [VR]; rfl⟩
  · rename_i hd
    cases h0
    rw [VR] at hv
    obtain ⟨p, c, m, rfl, _, hm, _⟩ := hv
    exact ⟨goInt m, by simp only [Builtin.len_, ht, hvs, run_und (td_slc hi hd), Sem.run_bind, Result.andThen_ok]; rfl, by rw [VR, ← hm]; rfl⟩
  · rename_i hd
    cases h0
    rw [VR] at hv
    subst hv
    exact ⟨goInt 0, by simp only [Builtin.len_, ht, hvs, run_und (td_map hi hd), Sem.run_bind, Result.andThen_ok]; rfl, by rw [VR]; rfl⟩
  · cases h0

theorem capA_spec {t : Nat} {a r : AV} {v : Value} {ts : Array TypeId} {vs : Array Value} {ty : TypeId} (ht : ts[0]? = some t) (hvs : vs[0]? = some v) (hv : VR ρ μ a v) (h : capA P t a = .ok r) :
    ∃ y, (Builtin.cap_ ts ty vs).run P w = .ok y w ∧ VR ρ μ r y := by
  unfold capA at h
  obtain ⟨ti, h1, h0⟩ := Res.bind_eq_ok h
  clear h
  have hi := tdR_spec h1
  split at h0
  · rename_i hd
    cases h0
    rw [VR] at hv
    obtain ⟨p, c, _, rfl, hc, _⟩ := hv
    have := hc rfl
    subst this
    exact ⟨goInt c, by simp only [Builtin.cap_, ht, hvs, run_und (td_slc hi hd), Sem.run_bind, Result.andThen_ok]; rfl, by rw [VR]; rfl⟩
  · rename_i hd
    cases h0
    rw [VR] at hv
    subst hv
    exact ⟨goInt 0, by simp only [Builtin.cap_, ht, hvs, run_und (td_slc hi hd), Sem.run_bind, Result.andThen_ok]; rfl, by rw [VR]; rfl⟩
  · cases h0

theorem maxA_spec {mx : Bool} (hp : pc.holds ρ) : ∀ {as : List AV} {a r : AV} {v : Value} {vs : List Value}, VR ρ μ a v → VRs ρ μ as vs → maxA mx pc a as = .ok r →
    ∃ y, (vs.foldlM (bif mx then Builtin.max2 else Builtin.min2) v).run P w = .ok y w ∧ VR ρ μ r y := by
  intro as
  induction as with
  | nil => intro a r v vs hv hvs h; rw [VRs_nil] at hvs; subst hvs; cases h; exact ⟨v, by simp, hv⟩
  | cons b as ih =>
    intro a r v vs hv hvs h
    rw [VRs_cons] at hvs
    obtain ⟨u, us, rfl, hu, hus⟩ := hvs
    unfold maxA at h
    split at h
    · cases ‹_ :: _ = []›
    · rename_i k x l y _ he
      cases he
      rcases cond_eq h with ⟨h1, h0⟩ | ⟨_, h0⟩
      · have := ikBeq_eq h1
        subst this
        obtain ⟨t, h2, h3⟩ := Res.bind_eq_ok h0
        have h4 := decR_spec hp h2
        rw [VR] at hv hu
        subst hv; subst hu
        rw [List.foldlM_cons]
        have key : ((bif mx then Builtin.max2 else Builtin.min2) (Value.int k (x.den ρ)) (Value.int k (y.den ρ))).run P w = .ok (.int k ((bif t then nrm pc y else nrm pc x).den ρ)) w := by
          cases mx <;> simp only [cond_true, cond_false, ltE_den, nrm_spec hp] at h4 ⊢
          · cases t
            · have := of_decide_eq_false h4
              simp [Builtin.min2, this, nrm_spec hp]
            · have := of_decide_eq_true h4
              simp [Builtin.min2, this, nrm_spec hp]
          · cases t
            · have := of_decide_eq_false h4
              simp [Builtin.max2, this, nrm_spec hp]
            · have := of_decide_eq_true h4
              simp [Builtin.max2, this, nrm_spec hp]
        obtain ⟨z, h5, h6⟩ := ih (show VR ρ μ (.int k (bif t then nrm pc y else nrm pc x)) (.int k ((bif t then nrm pc y else nrm pc x).den ρ)) by rw [VR]) hus h3
        exact ⟨z, by rw [Sem.run_bind, key, Result.andThen_ok]; exact h5, h6⟩
      · cases h0
    · cases h

theorem aLen_spec {b : Builtin} {ts : Array TypeId} {vs : List AV} {us : Array Value} {ty : TypeId} {cs : Array Bool} {r : AV} (hp : pc.holds ρ) (hv : VRs ρ μ vs us.toList) (h : aLen P pc b ts.toList vs = .ok r) :
    ∃ y, (builtin b ts ty cs us).run P w = .ok (.value y) w ∧ VR ρ μ r y := by
  have first : ∀ {v : AV} {l : List AV}, VRs ρ μ (v :: l) us.toList → ∃ u, us[0]? = some u ∧ VR ρ μ v u := by
    intro v l h
    rw [VRs_cons] at h
    obtain ⟨u, _, h1, h2, _⟩ := h
    exact ⟨u, by rw [← Array.getElem?_toList, h1]; rfl, h2⟩
  have head : ∀ {t : TypeId} {l : List TypeId}, ts.toList = t :: l → ts[0]? = some t := fun h => by rw [← Array.getElem?_toList, h]; rfl
  unfold aLen at h
  split at h
  · rename_i _ _ _ t _ he
    obtain ⟨u, h1, h2⟩ := first hv
    obtain ⟨y, h3, h4⟩ := lenA_spec (P := P) (w := w) (ty := ty) (head he) h1 h2 h
    exact ⟨y, by simp [builtin, h3], h4⟩
  · rename_i _ _ _ t _ he
    obtain ⟨u, h1, h2⟩ := first hv
    obtain ⟨y, h3, h4⟩ := capA_spec (P := P) (w := w) (ty := ty) (head he) h1 h2 h
    exact ⟨y, by simp [builtin, h3], h4⟩
  · rw [VRs_cons] at hv
    obtain ⟨u, us', h1, h2, h3⟩ := hv
    obtain ⟨y, h4, h5⟩ := maxA_spec (P := P) (w := w) hp h2 h3 h
    refine ⟨y, ?_, h5⟩
    simp only [cond_true] at h4
    simp [builtin, Builtin.max_, h1, h4]
  · rw [VRs_cons] at hv
    obtain ⟨u, us', h1, h2, h3⟩ := hv
    obtain ⟨y, h4, h5⟩ := maxA_spec (P := P) (w := w) hp h2 h3 h
    refine ⟨y, ?_, h5⟩
    simp only [cond_false] at h4
    simp [builtin, Builtin.min_, h1, h4]
  · cases h

/-! ### Literals -/
theorem layA_length : ∀ (cs : List AV) (o : Nat) (vs : List AV), (layA cs o vs).length = cs.length := by
  intro cs
  induction cs with
  | nil => intro o vs; rfl
  | cons c cs ih =>
    intro o vs
    cases o with
    | zero => cases vs with
      | nil => rfl
      | cons v vs => simp [layA, ih]
    | succ o => simp [layA, ih]

theorem layA_get : ∀ (cs : List AV) (o : Nat) (vs : List AV) (i : Nat), (layA cs o vs)[i]? = if o ≤ i ∧ i < o + vs.length ∧ i < cs.length then vs[i - o]? else cs[i]? := by
  intro cs
  induction cs with
  | nil => intro o vs i; simp [layA]
  | cons c cs ih =>
    intro o vs i
    cases o with
    | zero => cases vs with
      | nil => simp [layA]
      | cons v vs =>
        cases i with
        | zero => simp [layA]
        | succ i =>
          simp only [layA, List.getElem?_cons_succ, ih, List.length_cons, Nat.zero_le, true_and, Nat.zero_add, Nat.sub_zero]
          by_cases e : i < vs.length ∧ i < cs.length
          · rw [if_pos e, if_pos (by omega)]
          · rw [if_neg e, if_neg (by omega)]
    | succ o =>
      cases i with
      | zero => simp [layA]
      | succ i =>
        simp only [layA, List.getElem?_cons_succ, ih, List.length_cons]
        by_cases e : o ≤ i ∧ i < o + vs.length ∧ i < cs.length
        · rw [if_pos e, if_pos (by omega)]; congr 1; omega
        · rw [if_neg e, if_neg (by omega)]

theorem fillA_spec {pl pl' : Nat → Option (Nat × Nat)} (hpl : ∀ i x, pl i = some x → pl' i = some x) : ∀ {parts : List (Nat × AV)} {ps : List (Nat × Value)} {cells : List AV} {xs : Array Value} {r : List AV},
    PartsR ρ μ parts ps → VRs ρ μ cells xs.toList → fillA pl cells parts = some r → ∃ ys, Instr.fill pl' xs ps = some ys ∧ VRs ρ μ r ys.toList := by
  intro parts
  induction parts with
  | nil => intro ps cells xs r hps hx h; simp only [PartsR] at hps; subst hps; cases h; exact ⟨xs, rfl, hx⟩
  | cons p parts ih =>
    obtain ⟨i, a⟩ := p
    intro ps cells xs r hps hx h
    simp only [PartsR] at hps
    obtain ⟨v, ps, rfl, hv, hps⟩ := hps
    simp only [fillA] at h
    split at h
    · cases h
    · rename_i off size hi
      rcases cond_eq h with ⟨h1, h2⟩ | ⟨_, h2⟩
      · clear h
        simp only [Bool.and_eq_true] at h1
        have e1 := beq_eq h1.1
        have e2 : off + a.cells.length ≤ cells.length := by simpa using h1.2
        have hc := VR_cells hv
        have l1 := VRs_length hc
        have l2 := VRs_length hx
        obtain ⟨g1, g2⟩ := Great.foldl_set off v.cells.toList 0 xs
        have hz : VRs ρ μ (layA cells off a.cells) ((v.cells.toList.zipIdx 0).foldl (fun cs (x : Value × Nat) => cs.setIfInBounds (off + x.2) x.1) xs).toList := by
          refine VRs_of_get (by rw [layA_length, l2, Array.length_toList, Array.length_toList, g1]) ?_
          intro j b u hb hu
          rw [layA_get] at hb
          rw [Array.getElem?_toList, g2 j] at hu
          have q2 : cells.length = xs.size := by rw [l2]; exact Array.length_toList
          by_cases e : off ≤ j ∧ j < off + a.cells.length ∧ j < cells.length
          · rw [if_pos e] at hb
            rw [if_pos (by rw [← l1, ← q2]; omega)] at hu
            obtain ⟨u', h3, h4⟩ := VRs_get hc _ _ hb
            rw [Nat.add_zero, h3] at hu
            cases hu; exact h4
          · rw [if_neg e] at hb
            rw [if_neg (by rw [← l1, ← q2]; omega)] at hu
            obtain ⟨u', h3, h4⟩ := VRs_get hx _ _ hb
            rw [Array.getElem?_toList, hu] at h3
            cases h3; exact h4
        obtain ⟨ys, h3, h4⟩ := ih hps hz h2
        refine ⟨ys, ?_, h4⟩
        simp only [Instr.fill, hpl _ _ hi]
        rw [if_neg, ← Array.foldl_toList, Array.toList_zipIdx]
        · exact h3
        · have := l1
          have l3 : v.cells.toList.length = v.cells.size := Array.length_toList
          have l4 : xs.toList.length = xs.size := Array.length_toList
          simp
          omega
      · cases h2

theorem placesA_spec : ∀ {fs : List Field} {l : List (Nat × Nat)}, placesA P (fs.map fun f => (f.type, f.offset, decide (f.name ≠ "_"))) = some l →
    (fs.mapM fun f => (do pure (f.offset, ← sizeOf f.type) : Sem (Nat × Nat))).run P w = .ok l w := by
  intro fs
  induction fs with
  | nil => intro l h; cases h; simp
  | cons f fs ih =>
    intro l h
    simp only [List.map_cons, placesA] at h
    split at h
    · rename_i ti l' h1 h2
      cases h
      have h3 := ih h2
      simp only [bind_pure_comp] at h3
      simp [List.mapM_cons, run_size h1, h3]
    · cases h

theorem run_zero {t : Nat} {ti : TI} (h : tinfo P t = some ti) (w : World) : ∃ z, (zeroValue t).run P w = .ok z w ∧ ∀ ρ μ, VRs ρ μ ti.zero z.cells.toList := by
  obtain ⟨i, d, z, h1, _, h3, _, _, _, h7⟩ := tinfo_spec h
  refine ⟨z, ?_, h7⟩
  simp [zeroValue, typeInfo, h1, h3]

theorem buildA_spec {t : Nat} {parts : List (Nat × AV)} {ps : Array (Nat × Value)} {r : AV} (hps : PartsR ρ μ parts ps.toList) (h : buildA P t parts = .ok r) :
    ∃ y, (Instr.build t ps).run P w = .ok y w ∧ VR ρ μ r y := by
  unfold buildA at h
  obtain ⟨ti, h1, h0⟩ := Res.bind_eq_ok h
  clear h
  have hi := tdR_spec h1
  obtain ⟨z, hz, hzr⟩ := run_zero hi w
  split at h0
  · rename_i fs hd
    split at h0
    · cases h0
    · rename_i l hl
      split at h0
      · rename_i cs hcs
        cases h0
        obtain ⟨fields, hu, rfl⟩ := td_struct hi hd
        have hm := placesA_spec (w := w) hl
        have hm' : (fields.mapM fun f => (do pure (f.offset, ← sizeOf f.type) : Sem (Nat × Nat))).run P w = .ok l.toArray w := by
          rw [Array.mapM_eq_mapM_toList, Sem.run_map, hm]; rfl
        obtain ⟨ys, h5, h6⟩ := fillA_spec (pl' := fun i => l.toArray[i]?) (fun i x hx => by rw [nth_eq] at hx; simpa using hx) hps (hzr ρ μ) hcs
        refine ⟨.agg ys, ?_, by rw [VR]; exact ⟨_, rfl, h6⟩⟩
        simp only [Instr.build, Sem.run_bind, hz, Result.andThen_ok, run_und hu, hm', h5, Sem.run_pure]
      · cases h0
  · rename_i n e hd
    obtain ⟨te, h2, h3⟩ := Res.bind_eq_ok h0
    clear h0
    split at h3
    · rename_i cs hcs
      cases h3
      obtain ⟨ys, h5, h6⟩ := fillA_spec (pl' := fun i => some (i * te.size, te.size)) (fun i x hx => hx) hps (hzr ρ μ) hcs
      refine ⟨.agg ys, ?_, by rw [VR]; exact ⟨_, rfl, h6⟩⟩
      simp only [Instr.build, Sem.run_bind, hz, Result.andThen_ok, run_und (td_arr hi hd), run_size (tdR_spec h2), h5, Sem.run_pure]
    · cases h3
  · cases h0

/-! ### Others -/
theorem und_of {t : Nat} {ti : TI} (h : tinfo P t = some ti) : ∃ d, P.underlying t = some d := by
  obtain ⟨_, d, _, _, h2, _⟩ := tinfo_spec h
  exact ⟨d, h2⟩

theorem convA_spec {s d : Nat} {a r : AV} {v : Value} (hp : pc.holds ρ) (hv : VR ρ μ a v) (h : convA P pc s d a = .ok r) : ∃ y, (convert s d v).run P w = .ok y w ∧ VR ρ μ r y := by
  unfold convA at h
  obtain ⟨ts, h1, h0⟩ := Res.bind_eq_ok h
  clear h
  obtain ⟨td, h2, h3⟩ := Res.bind_eq_ok h0
  clear h0
  obtain ⟨du, hs⟩ := und_of (tdR_spec h1)
  split at h3
  · rename_i k _ e hd
    cases h3
    rw [VR] at hv
    subst hv
    refine ⟨.int k (k.wrap (e.den ρ)), ?_, by rw [VR, wrapE_den, nrm_spec hp]⟩
    simp [convert, run_und hs, run_und (td_int (tdR_spec h2) hd), Conv.intToInt]
  · rename_i n b hd
    cases h3
    have h0 := hv
    rw [VR] at hv
    obtain ⟨s', rfl, _⟩ := hv
    refine ⟨.string s', ?_, h0⟩
    simp [convert, run_und hs, run_und (td_str (tdR_spec h2) hd)]
  · cases h3

theorem aExtract_spec {i : Nat} {a r : AV} {v : Value} (hv : VR ρ μ a v) (h : aExtract i a = .ok r) : ∃ y, (Instr.extract v i).run P w = .ok y w ∧ VR ρ μ r y := by
  unfold aExtract at h
  split at h
  · have h1 := Res.ofO_eq_ok h
    rw [nth_eq] at h1
    rw [VR] at hv
    obtain ⟨ys, rfl, hs⟩ := hv
    obtain ⟨y, h2, h3⟩ := VRs_get hs _ _ h1
    rw [Array.getElem?_toList] at h2
    exact ⟨y, by simp [Instr.extract, h2], h3⟩
  · cases h

theorem aIface_spec {t : Nat} {a r : AV} {v : Value} (hv : VR ρ μ a v) (h : aIface P t a = .ok r) : ∃ y, (Instr.makeInterface t v).run P w = .ok y w ∧ VR ρ μ r y := by
  unfold aIface at h
  obtain ⟨ti, h1, h0⟩ := Res.bind_eq_ok h
  clear h
  obtain ⟨_, d, _, _, h2, _, h4, _⟩ := tinfo_spec (tdR_spec h1)
  rw [h4] at h0
  refine ⟨.iface t v, ?_, ?_⟩
  · cases d <;> simp only [tdOf] at h0 <;> first | (cases h0; done) | simp [Instr.makeInterface, run_und h2]
  · split at h0
    · cases h0
    · cases h0; rw [VR]; exact ⟨_, rfl, hv⟩

theorem aNilCheck_spec {rv : Operand → Value} {o : Oper} {x : Operand} (ho : o.op = .nilCheck x) {a r : AV} (hv : VR ρ μ a (rv x)) (h : aNilCheck a = .ok r) : ∃ y, (execOp rv o).run P w = .ok (.value y) w ∧ VR ρ μ r y := by
  have h0 := hv
  unfold aNilCheck at h
  split at h
  · cases h
    rw [VR] at hv
    obtain ⟨p, h1, h2⟩ := hv
    exact ⟨rv x, by simp [execOp, ho, h2], h0⟩
  · cases h
    rw [VR] at hv
    obtain ⟨f, a, b, h2, h1, _⟩ := hv
    simp only [fnR] at h1
    subst h1
    exact ⟨rv x, by simp [execOp, ho, h2], h0⟩
  · cases h
    rw [VR] at hv
    obtain ⟨f, a, b, h2, h1, _⟩ := hv
    simp only [fnR] at h1
    obtain ⟨p, _, h1⟩ := h1
    subst h1
    exact ⟨rv x, by simp [execOp, ho, h2], h0⟩
  · cases h
    rw [VR] at hv
    obtain ⟨y, h2, _⟩ := hv
    exact ⟨rv x, by simp [execOp, ho, h2], h0⟩
  · cases h

end
end Go.Ev
