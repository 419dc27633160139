/- Calls and operations; no theorem of the program yet; no conditions. -/
import Derived.Test.YtlngklpiapbpmaaEvQ
set_option linter.unusedSimpArgs false
set_option linter.unusedVariables false
namespace Go.Ev

/-- The fence of a frame, which may be a round of a loop. -/
def fen (ro : Option Nat) : Fence := { Fence.wide with round := ro }

def FR (μ : Mu) (fr : Fr) (ro : Option Nat) : Prop :=
  match fr.round with
  | none => ro = none
  | some l => ∃ p, μ l = some p ∧ ro = some p.1

theorem FR_mono {μ μ' : Mu} (h : μ.le μ') {fr : Fr} {ro : Option Nat} (hf : FR μ fr ro) : FR μ' fr ro := by
  unfold FR at *
  split
  · rename_i e; rw [e] at hf; exact hf
  · rename_i l e; rw [e] at hf; obtain ⟨p, h1, h2⟩ := hf; exact ⟨p, h _ _ h1, h2⟩

/-- The marks among a frame's deferred calls. -/
def DR (μ : Mu) : List Nat → List Deferred → Prop
  | [], ds => ds = []
  | id :: r, ds => ∃ p ds', μ id = some p ∧ ds = { target := .collected p.1, args := #[] } :: ds' ∧ DR μ r ds'

theorem DR_mono {μ μ' : Mu} (h : μ.le μ') : ∀ {ms : List Nat} {ds : List Deferred}, DR μ ms ds → DR μ' ms ds
  | [], _, hd => hd
  | _ :: _, _, ⟨p, ds', h1, h2, h3⟩ => ⟨p, ds', h _ _ h1, h2, DR_mono h h3⟩

structure AR (ρ : Env) (μ : Mu) (fr : Fr) (tm : Tm) (ms : List Nat) (a : Act) : Prop where
  size : a.tmps.size = fr.nt
  tmr : TmR ρ μ tm a.tmps
  dfr : DR μ ms a.defers
  mask : tm.mask = fr.mask

theorem AR_mono {ρ : Env} {μ μ' : Mu} (h : μ.le μ') {fr : Fr} {tm : Tm} {ms : List Nat} {a : Act} (x : AR ρ μ fr tm ms a) : AR ρ μ' fr tm ms a := ⟨x.size, TmR_mono h x.tmr, DR_mono h x.dfr, x.mask⟩

theorem AR.tree {ρ : Env} {μ : Mu} {fr : Fr} {tm : Tm} {ms : List Nat} {a : Act} (x : AR ρ μ fr tm ms a) : AR ρ μ fr ⟨fr.mask, tm.tree, []⟩ ms a := by
  refine ⟨x.size, ?_, x.dfr, rfl⟩
  intro t v h
  rw [Tm.get_eq] at h
  simp only at h
  split at h
  · rename_i hb
    refine x.tmr t v ?_
    rw [Tm.get_eq, x.mask, if_pos hb]; exact h
  · cases h

def StR (ρ : Env) (μ : Mu) (fr : Fr) (st : St) (a : Act) (w : World) : Prop := AR ρ μ fr (tmOf fr st) st.marks a ∧ Rel ρ μ st.h.get st.h.next w

def Ex.exit' : Ex → Exit
  | .normal => .normal
  | .exit id => .exit id
  | .goto l => .goto l
  | .ret => .ret

def FnPost (ρ : Env) (μ : Mu) (h : H) (w : World) (v : AV) (h' : H) : Ending → World → Prop :=
  fun e w' => ∃ x μ', e = .returned x ∧ VR ρ μ' v x ∧ Rel ρ μ' h'.get h'.next w' ∧ Stp μ h.get h.next w μ' h'.get w' ∧ h.next ≤ h'.next

def CPost (ρ : Env) (μ : Mu) (fr : Fr) (st : St) (w : World) (x : Ex × St) : Exit → Act → World → Prop :=
  fun e a' w' => e = x.1.exit' ∧ ∃ μ', StR ρ μ' fr x.2 a' w' ∧ Stp μ st.h.get st.h.next w μ' x.2.h.get w' ∧ st.h.next ≤ x.2.h.next

section
variable (P : Program) (ρ : Env)

def FnOK (rf : List AV → H → Res (AV × H)) (f : Nat) : Prop :=
  ∀ args h v h', rf args h = .ok (v, h') →
    (∃ fn, P.funcs[f]? = some fn ∧ fn.body.isNone = false ∧ (fn.name == "runtime.NumGoroutine") = false) ∧
    ∀ μ w us, Rel ρ μ h.get h.next w → VRs ρ μ args us.toList → CallsIn Fence.wide 0 P f us w (FnPost ρ μ h w v h')

def CodeOK (rc : Fr → Code → St → Res (Ex × St)) : Prop :=
  ∀ fr c st x, rc fr c st = .ok x → ∀ μ ro a w, FR μ fr ro → StR ρ μ fr st a w → c.wpIn (fen ro) 0 P (CPost ρ μ fr st w x) a w

def LoopOK (rc : Fr → Code → St → Res (Ex × St)) : Prop :=
  ∀ fr c st x, rc fr c st = .ok x → ∀ μ ro a w, FR μ fr ro → StR ρ μ fr st a w → (Code.loop c).wpIn (fen ro) 0 P (CPost ρ μ fr st w x) a w

structure RecOK (r : Rec) : Prop where
  code : CodeOK P ρ r.code
  loop : LoopOK P ρ r.loop
  fn : ∀ f, FnOK P ρ (r.fn f) f

structure HooksOK (X : Hooks) (pc : PC) : Prop where
  sum : ∀ f g, X.sum f = some g → FnOK P ρ (g pc) f
  ext : ∀ f g, X.ext f = some g → ∀ args v, g pc args = .ok v → ∀ μ us w, VRs ρ μ args us.toList → ∃ y, (callFunc f us).run P w = .ok (.value y) w ∧ VR ρ μ v y
  mth : ∀ t name f, X.mth t name = some f → ∀ v w, (method (P.types.size + Made.depth) t v name).run P w = .ok (f, v) w
end

section
variable {ρ : Env} {μ : Mu} {P : Program} {pc : PC} {w : World} {X : Hooks} {r : Rec}

/-- What a call comes to. -/
def CallR (ρ : Env) (μ : Mu) (P : Program) (h : H) (w : World) (v : AV) (h' : H) (res : Result Next) : Prop :=
  (∃ y, res = .ok (.value y) w ∧ VR ρ μ v y ∧ h' = h) ∨
  (∃ f us, res = .ok (.enter f us) w ∧ CallsIn Fence.wide 0 P f us w (FnPost ρ μ h w v h')) ∨
  (∃ b f tmps as body, res = .ok (.round b f tmps as body) w ∧ RoundIn Fence.wide 0 P b f tmps as body w (FnPost ρ μ h w v h'))

theorem upon_of {h h' : H} {v : AV} {res : Result Next} {ro : Option Nat} {o : Oper} {a : Act} {next : Act → World → Prop} {Q : Exit → Act → World → Prop} (hc : CallR ρ μ P h w v h' res) (R : Rel ρ μ h.get h.next w)
    (K : ∀ x w' μ', Rel ρ μ' h'.get h'.next w' → Stp μ h.get h.next w μ' h'.get w' → h.next ≤ h'.next → VR ρ μ' v x → next (a.put o.dst x) w') : o.uponIn (fen ro) 0 P a next Q res := by
  rcases hc with ⟨y, rfl, hv, rfl⟩ | ⟨f, us, rfl, hcall⟩ | ⟨b, f, tmps, as, body, rfl, hround⟩
  · exact K y w μ R (Stp.refl _ _ _ _) (Nat.le_refl _) hv
  · refine ⟨(fun h => by cases h), ?_⟩
    refine CallsIn.mono (F := fen ro) (show CallsIn (fen ro) 0 P f us w (FnPost ρ μ h w v h') from hcall) ?_
    rintro e w' ⟨x, μ', rfl, h1, h2, h3, h4⟩
    exact K x w' μ' h2 h3 h4 h1
  · refine ⟨(fun h => by cases h), ?_⟩
    refine RoundIn.mono (F := fen ro) (show RoundIn (fen ro) 0 P b f tmps as body w (FnPost ρ μ h w v h') from hround) ?_
    rintro e w' ⟨x, μ', rfl, h1, h2, h3, h4⟩
    exact K x w' μ' h2 h3 h4 h1

theorem run_callFunc {f : Nat} {fn : Func} (us : Array Value) (h1 : P.funcs[f]? = some fn) (h2 : fn.body.isNone = false) (h3 : (fn.name == "runtime.NumGoroutine") = false) : (callFunc f us).run P w = .ok (.enter f us) w := by
  simp only [callFunc, Sem.run_bind, program, Sem.run, Result.andThen_ok, h1, h3, h2, Bool.false_eq_true, if_false, Sem.run_pure]

theorem callF_spec (rOK : RecOK P ρ r) (xOK : HooksOK P ρ X pc) {f : Nat} {args : List AV} {h h' : H} {v : AV} {us : Array Value} (R : Rel ρ μ h.get h.next w) (hv : VRs ρ μ args us.toList) (hr : callF X pc r f args h = .ok (v, h')) :
    CallR ρ μ P h w v h' ((callFunc f us).run P w) := by
  unfold callF at hr
  split at hr
  · rename_i g hg
    obtain ⟨⟨fn, h1, h2, h3⟩, h4⟩ := xOK.sum f g hg args h v h' hr
    exact .inr (.inl ⟨f, us, run_callFunc us h1 h2 h3, h4 μ w us R hv⟩)
  · split at hr
    · rename_i g hg
      obtain ⟨v', h1, h2⟩ := Res.bind_eq_ok hr
      cases h2
      obtain ⟨y, h3, h4⟩ := xOK.ext f g hg args v h1 μ us w hv
      exact .inl ⟨y, h3, h4, rfl⟩
    · obtain ⟨⟨fn, h1, h2, h3⟩, h4⟩ := rOK.fn f args h v h' hr
      exact .inr (.inl ⟨f, us, run_callFunc us h1 h2 h3, h4 μ w us R hv⟩)

theorem callE_spec (rOK : RecOK P ρ r) (xOK : HooksOK P ρ X pc) {f : Nat} {args : List AV} {h h' : H} {v : AV} {us : Array Value} (R : Rel ρ μ h.get h.next w) (hv : VRs ρ μ args us.toList) (hr : callE X pc r f args h = .ok (v, h')) :
    (∀ w, (callFunc f us).run P w = .ok (.enter f us) w) ∧ CallsIn Fence.wide 0 P f us w (FnPost ρ μ h w v h') := by
  unfold callE at hr
  split at hr
  · rename_i g hg
    obtain ⟨⟨fn, h1, h2, h3⟩, h4⟩ := xOK.sum f g hg args h v h' hr
    exact ⟨fun w => run_callFunc us h1 h2 h3, h4 μ w us R hv⟩
  · split at hr
    · cases hr
    · obtain ⟨⟨fn, h1, h2, h3⟩, h4⟩ := rOK.fn f args h v h' hr
      exact ⟨fun w => run_callFunc us h1 h2 h3, h4 μ w us R hv⟩

theorem setsA_spec {nt mask : Nat} : ∀ {ts : List Nat} {vs : List AV} {us : List Value} {tm tm' : T AV} {tmps : Array Value}, setsA tm nt mask ts vs = .ok tm' → VRs ρ μ vs us → tmps.size = nt → TmR ρ μ ⟨mask, tm, []⟩ tmps →
    ts.length = us.length ∧ ((ts.zip us).foldl (fun tmps (x : Nat × Value) => tmps.setIfInBounds x.1 x.2) tmps).size = nt ∧ TmR ρ μ ⟨mask, tm', []⟩ ((ts.zip us).foldl (fun tmps (x : Nat × Value) => tmps.setIfInBounds x.1 x.2) tmps) := by
  intro ts
  induction ts with
  | nil =>
    intro vs us tm tm' tmps h hv hs ht
    cases vs with
    | nil => cases h; rw [VRs_nil] at hv; subst hv; exact ⟨rfl, hs, ht⟩
    | cons v vs => cases h
  | cons t ts ih =>
    intro vs us tm tm' tmps h hv hs ht
    cases vs with
    | nil => cases h
    | cons v vs =>
      rw [VRs_cons] at hv
      obtain ⟨u, us, rfl, h1, h2⟩ := hv
      simp only [setsA] at h
      rcases cond_eq h with ⟨h3, h4⟩ | ⟨_, h4⟩
      · have h3 : t < nt := by simpa using h3
        obtain ⟨q1, q2, q3⟩ := ih (tmps := tmps.setIfInBounds t u) h4 h2 (by simp [hs]) (by
          intro j b hj
          rw [Tm.get_eq] at hj
          simp only at hj
          by_cases hb : bit mask j = true
          · rw [if_pos hb] at hj
            by_cases e : j = t
            · subst e
              rw [hb, cond_true, T.get_put, if_pos rfl] at hj
              cases hj
              exact ⟨u, by rw [Array.getElem?_setIfInBounds_self_of_lt (by omega)], h1⟩
            · have hj' : tm.get j = some b := by
                cases hbt : bit mask t with
                | true => rw [hbt, cond_true, T.get_put, if_neg e] at hj; exact hj
                | false => rw [hbt, cond_false] at hj; exact hj
              rw [Array.getElem?_setIfInBounds_ne (fun h => e h.symm)]
              exact ht j b (by rw [Tm.get_eq, if_pos hb]; exact hj')
          · rw [if_neg hb] at hj; cases hj)
        exact ⟨by simp [q1], q2, q3⟩
      · cases h4

theorem loop_put {l : Nat} {p : Loc} {h : H} {fn nt mask : Nat} {tm : T AV} {ps : List Nat} {assign body : Code} {s : LoopState} {pend : Option Code} {d : Nat} (s' : LoopState) (pend' : Option Code)
    (R : Rel ρ μ h.get h.next w) (hb : h.get l = some (.loop fn nt mask tm ps assign body s pend d)) (hp : μ l = some p) :
    ∃ L, w.heap[p.1]? = some (.loop L) ∧ L.state = s ∧ L.params.toList = ps ∧ L.assign = assign ∧ L.body = body ∧ L.pending = pend ∧ L.tmps.size = nt ∧ TmR ρ μ ⟨mask, tm, []⟩ L.tmps ∧
      Rel ρ μ (h.set l (.loop fn nt mask tm ps assign body s' pend' d)).get h.next (w.putObj p.1 (.loop { L with state := s', pending := pend' })) ∧
      Stp μ h.get h.next w μ (h.set l (.loop fn nt mask tm ps assign body s' pend' d)).get (w.putObj p.1 (.loop { L with state := s', pending := pend' })) := by
  obtain ⟨p', o, hp', ho, L, q, rfl, h2, h3, h4, h5, h6, h7, h8, h9, h10⟩ := R.blk _ _ hb
  rw [hp] at hp'
  cases hp'
  obtain ⟨q1, q2, q3⟩ := putObj_props (o' := .loop { L with state := s', pending := pend' }) ho
  obtain ⟨R', S⟩ := R.replace (b' := .loop fn nt mask tm ps assign body s' pend' d) hb rfl rfl hp q1 q2 q3 ⟨_, q, rfl, h2, h3, h4, rfl, rfl, h7, h8, h9, h10⟩ rfl rfl rfl (put_fz ho (fun _ _ _ h => by cases h) (fun _ _ _ h => by cases h))
  refine ⟨L, ho, h5, h2, h3, h4, h6, h9, ?_, by rw [H.get_set]; exact R', by rw [H.get_set]; exact S⟩
  intro t v ht
  rw [Tm.get_eq] at ht
  simp only at ht
  split at ht
  · rename_i hb; exact h10 t v hb ht
  · cases ht

theorem yieldA_spec (rOK : RecOK P ρ r) {l : Nat} {p : Loc} {args : List AV} {h h' : H} {v : AV} {us : Array Value} (R : Rel ρ μ h.get h.next w) (hp : μ l = some p) (hv : VRs ρ μ args us.toList) (hr : yieldA r l args h = .ok (v, h')) :
    CallR ρ μ P h w v h' ((Instr.yield p.1 us).run P w) := by
  unfold yieldA at hr
  split at hr
  · rename_i fn nt mask tm ps assign body pend d hb
    obtain ⟨tm1, h1, hr⟩ := Res.bind_eq_ok hr
    obtain ⟨⟨e1, st1⟩, h2, hr⟩ := Res.bind_eq_ok hr
    obtain ⟨L, hL, l1, l3, l4, l5, l6, l7, l8, _, _⟩ := loop_put .ready pend R hb hp
    obtain ⟨s1, s2, s3⟩ := setsA_spec h1 hv l7 l8
    refine .inr (.inr ⟨p.1, L.fn, (L.params.zip us).foldl (fun tmps (x : Nat × Value) => tmps.setIfInBounds x.1 x.2) L.tmps, L.assign, L.body, ?_, ?_⟩)
    · have hsz : us.size = L.params.size := by
        rw [← Array.length_toList, ← Array.length_toList, ← s1, l3]
      rw [run_yield hL hsz]
    · have hfold : (L.params.zip us).foldl (fun tmps (x : Nat × Value) => tmps.setIfInBounds x.1 x.2) L.tmps = (ps.zip us.toList).foldl (fun tmps (x : Nat × Value) => tmps.setIfInBounds x.1 x.2) L.tmps := by
        rw [← Array.foldl_toList, Array.toList_zip, l3]
      rw [hfold]
      refine roundIn_of_wpIn (F := Fence.wide) trivial ?_
      have hFR : FR μ { fn, nt, mask, round := some l } (some p.1) := ⟨p, hp, rfl⟩
      have hw := rOK.code _ _ _ _ h2 μ (some p.1) { tmps := (ps.zip us.toList).foldl (fun tmps (x : Nat × Value) => tmps.setIfInBounds x.1 x.2) L.tmps, defers := [] } w hFR ⟨⟨s2, s3, rfl, rfl⟩, R⟩
      rw [l4]
      refine wpIn_mono hw ?_
      rintro e a1 w1 ⟨he, μ1, ⟨A1, R1⟩, S1, n1⟩
      simp only at he hr A1 R1 S1 n1
      cases e1 <;> simp only at hr <;> first | (cases hr; done) | skip
      subst he
      simp only [Ex.exit', Exit.then]
      split at hr
      · rename_i fn' nt' mask' tm0 ps' assign' body0 pend' d' hb1
        obtain ⟨⟨e2, st2⟩, h3, hr⟩ := Res.bind_eq_ok hr
        have hp1 := S1.le _ _ hp
        obtain ⟨L1, k1, k2, _, _, _, k3, _, _, RB, SB⟩ := loop_put .busy pend' R1 hb1 hp1
        refine ⟨_, run_beginRound k1 k2, ?_⟩
        rw [l5]
        have hL1 : ({ L1 with state := .busy } : Loop) = { L1 with state := .busy, pending := pend' } := by rw [← k3]
        rw [hL1]
        have hw2 := rOK.code _ _ _ _ h3 μ1 (some p.1) a1 (w1.putObj p.1 (.loop { L1 with state := .busy, pending := pend' })) (FR_mono S1.le hFR) ⟨A1, RB⟩
        refine wpIn_mono hw2 ?_
        rintro e a2 w2 ⟨he, μ2, ⟨A2, R2⟩, S2, n2⟩
        simp only at he hr A2 R2 S2 n2
        split at hr
        · rename_i fn'' nt'' mask'' tm0' ps'' assign'' body'' s'' pend'' d'' hb2
          have hp2 := S2.le _ _ hp1
          have fin : ∀ (s : LoopState) (pn : Option Code) (b : Bool), v = .bool (.lit b) → h' = st2.h.set l (.loop fn'' nt'' mask'' tm0' ps'' assign'' body'' s pn d'') → s = (if pn.isNone then .ready else .done) → b = pn.isNone →
              ∃ y w3, (Instr.endRound p.1 pn).run P w2 = .ok y w3 ∧ FnPost ρ μ h w v h' (.returned y) w3 := by
            intro s pn b hv' hh' hs' hb'
            obtain ⟨L2, j1, _, _, _, _, _, _, _, R3, S3⟩ := loop_put s pn R2 hb2 hp2
            refine ⟨_, _, run_endRound pn j1, .bool b, μ2, by rw [hb'], by rw [hv', VR]; rfl, ?_, ?_, ?_⟩
            · rw [hh', ← hs']; exact R3
            · rw [hh', ← hs']
              exact Stp.trans (Stp.trans (Stp.trans S1 SB n1) S2 n1) S3 (Nat.le_trans n1 n2)
            · rw [hh']; exact Nat.le_trans n1 n2
          subst he
          cases e2 <;> simp only [Ex.exit', roundPost, Ex.code?, Res.ok.injEq, Prod.mk.injEq] at hr ⊢ <;> exact fin _ _ _ hr.1.symm hr.2.symm rfl rfl
        · cases hr
      · cases hr
  · cases hr

end
end Go.Ev
