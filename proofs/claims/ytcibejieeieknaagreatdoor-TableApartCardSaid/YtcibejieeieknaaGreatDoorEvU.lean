/- Statements and functions; no theorem of the program yet; no conditions. -/
import Derived.Test.YtcibejieeieknaaGreatDoorEvTe
import Derived.Scope
set_option linter.unusedSimpArgs false
set_option linter.unusedVariables false
namespace Go.Ev
section
variable {P : Program} {F : Fence} {n : Nat} {Q : Exit → Act → World → Prop} {a : Act} {w : World}

theorem stepR_scope {b : Frame} {k : List Item} {cs : List Frame} {c : Code} : step P (lone (b.atR a (.code (.scope c) :: k)) cs w) = .next (lone (b.atR a (.code c :: .inScope c :: k)) cs w) :=
  step_lone_go (by simp [stepG, stepG.exec, Frame.atR])
theorem stepR_inScope {b : Frame} {k : List Item} {cs : List Frame} {c : Code} : step P (lone (b.atR a (.inScope c :: k)) cs w) = .next (lone (b.atR a k) cs w) :=
  step_lone_go (by simp [stepG, stepG.exec, Frame.atR])

theorem wpIn_scope {c : Code} (h : c.wpIn F n P (Exit.noGoto Q) a w) : (Code.scope c).wpIn F n P Q a w := by
  intro b k cs hro hb hr
  have h0 : (lone (b.atR a (.code (.scope c) :: k)) cs w).fenced P F := fenced_calm hb hr rfl
  obtain ⟨e, a₁, w₁, hq, harr⟩ := h b (.inScope c :: k) cs hro hb hr
  cases e with
  | normal => exact ⟨.normal, a₁, w₁, hq, .head h0 stepR_scope (StepsIn.trans harr (.one (fenced_calm hb hr rfl) stepR_inScope))⟩
  | exit id =>
    have hx : exitTo id (.inScope c :: k) = exitTo id k := by simp [exitTo]
    exact ⟨.exit id, a₁, w₁, hq, fun k' hk => .head h0 stepR_scope (harr.1 k' (by rw [hx]; exact hk)),
      fun hr' hk => let ⟨k₁, h1, h2⟩ := harr.2 hr' (by rw [hx]; exact hk); ⟨k₁, h1, .head h0 stepR_scope h2⟩⟩
  | goto l => exact hq.elim
  | ret => exact ⟨_, a₁, w₁, hq, .of_steps (.one h0 stepR_scope) harr⟩
  | panic ch => exact ⟨_, a₁, w₁, hq, .of_steps (.one h0 stepR_scope) harr⟩
  | outgrown => exact ⟨_, a₁, w₁, hq, .of_steps (.one h0 stepR_scope) harr⟩
end

section
variable {ρ : Env} {μ : Mu} {P : Program} {pc : PC} {w : World} {X : Hooks} {r : Rec}

theorem Stp.drew {g : G} {nx : Nat} {μ' : Mu} {g' : G} {w' : World} (S : Stp μ g nx { w with drawn := w.drawn + 1 } μ' g' w') : Stp μ g nx w μ' g' w' := ⟨S.le, S.new, S.ids, S.size, S.tape, S.os, S.output, S.frame, S.own, S.fz⟩

/-- One piece of work behind another. -/
theorem CPost_after {fr : Fr} {st st1 : St} {x : Ex × St} {μ1 : Mu} {w1 : World} {e : Exit} {a : Act} {w2 : World} (S : Stp μ st.h.get st.h.next w μ1 st1.h.get w1) (hn : st.h.next ≤ st1.h.next) (h : CPost ρ μ1 fr st1 w1 x e a w2) : CPost ρ μ fr st w x e a w2 := by
  obtain ⟨he, μ2, h1, S2, n2⟩ := h
  exact ⟨he, μ2, h1, Stp.trans S S2 hn, Nat.le_trans hn n2⟩

theorem cond_spec (hp : pc.holds ρ) {rc : Rec} (rOK : RecOK P ρ rc) {fr : Fr} {c : Operand} {x y : Code} {st : St} {res : Ex × St} {ro : Option Nat} {a : Act} (hF : FR μ fr ro) (hS : StR ρ μ fr st a w)
    (hr : ((evalA (tmOf fr st) c).bind (cTest pc rc fr x y st)) = .ok res) : (Code.cond c x y).wpIn (fen ro) 0 P (CPost ρ μ fr st w res) a w := by
  obtain ⟨v, h1, h2⟩ := Res.bind_eq_ok hr
  have hv := evalA_spec hS.1.tmr hS.2.glob h1
  unfold cTest at h2
  split at h2
  · obtain ⟨t, h3, h4⟩ := Res.bind_eq_ok h2
    rw [VR, decR_spec hp h3] at hv
    refine wpIn_cond hv ?_
    cases t
    · exact rOK.code _ _ _ _ h4 _ _ _ _ hF hS
    · exact rOK.code _ _ _ _ h4 _ _ _ _ hF hS
  · cases h2

theorem exit_of (e : Ex) : (∃ c, e.code? = some c) ∨ e = .normal := by cases e <;> simp [Ex.code?]

theorem range_spec (rOK : RecOK P ρ r) (xOK : HooksOK P ρ X pc) {fr : Fr} {f : Operand} {ps : Array Tmp} {assign body : Code} {st : St} {res : Ex × St} {ro : Option Nat} {a : Act} (hF : FR μ fr ro) (hS : StR ρ μ fr st a w)
    (hr : rangeA X pc r fr f ps.toList assign body st = .ok res) : (Code.rangeFunc f ps assign body).wpIn (fen ro) 0 P (CPost ρ μ fr st w res) a w := by
  have hpsz : ps.toList = ps.toList := rfl
  unfold rangeA at hr
  split at hr
  · cases hr
  · rename_i d h mk hl
    obtain ⟨fv, h1, hr⟩ := Res.bind_eq_ok hr
    split at hr
    · rename_i g av bv
      obtain ⟨⟨v, h2⟩, h3, hr⟩ := Res.bind_eq_ok hr
      have hf := evalA_spec hS.1.tmr hS.2.glob h1
      rw [VR] at hf
      obtain ⟨g', a', b', f1, f2, f3, f4⟩ := hf
      simp only [fnR] at f2
      subst f2
      -- what is laid
      have lay : ∀ fn, ∃ (l : Nat) (mark : List Deferred) (w₁ : World) (μ1 : Mu), (Instr.enterLoop fn a.tmps ps assign body ro).run P w = .ok (l, mark) w₁ ∧
          Rel ρ μ1 (h.new (.loop fr.fn fr.nt fr.mask st.tm ps.toList assign body .ready none d)).get (h.next + 1) w₁ ∧ Stp μ st.h.get st.h.next w μ1 (h.new (.loop fr.fn fr.nt fr.mask st.tm ps.toList assign body .ready none d)).get w₁ ∧
          (∃ p, μ1 h.next = some p ∧ p.1 = l) ∧ DR μ1 mk mark ∧ st.h.next ≤ h.next := by
        intro fn
        have htm : ∀ t v, bit fr.mask t = true → st.tm.get t = some v → ∃ x, a.tmps[t]? = some x ∧ VR ρ μ v x := by
          intro t v hb ht
          refine hS.1.tmr t v ?_
          rw [Tm.get_eq]
          show (if bit fr.mask t = true then st.tm.get t else _) = _
          rw [if_pos hb]; exact ht
        cases hrd : fr.round with
        | none =>
          rw [hrd] at hl
          cases hl
          have hro : ro = none := by unfold FR at hF; rw [hrd] at hF; exact hF
          subst hro
          have R := hS.2
          obtain ⟨R1, S1⟩ := R.alloc (w' := w.alloc (.deferred (some []))) (z := 0) (b := .defs) (o := .deferred (some [])) R.none_next (Nat.le_refl _) (Nat.lt_succ_self _) (Nat.le_succ _) (by simp)
            (fun k hk => heap_alloc_old w _ k hk) (heap_alloc_new w _) rfl rfl rfl rfl (fun a _ => other_fz _ _ (fun _ _ _ h => by cases h) a)
          rw [← H.get_new] at R1 S1
          have R1 : Rel ρ (upd μ st.h.next (some (w.heap.size, 0, 0))) (st.h.new .defs).get (st.h.new .defs).next (w.alloc (.deferred (some []))) := R1
          have hle := S1.le
          have hdid : upd μ st.h.next (some (w.heap.size, 0, 0)) st.h.next = some (w.heap.size, 0, 0) := by simp [upd]
          have hle2 : Mu.le (upd μ st.h.next (some (w.heap.size, 0, 0))) (upd (upd μ st.h.next (some (w.heap.size, 0, 0))) (st.h.new .defs).next (some ((w.alloc (.deferred (some []))).heap.size, 0, 0))) := by
            intro j q hj
            unfold upd
            split
            · rename_i e; rw [e, R1.none_next] at hj; cases hj
            · exact hj
          obtain ⟨R2, S2⟩ := R1.alloc (w' := (w.alloc (.deferred (some []))).alloc (.loop { state := .ready, pending := none, fn, tmps := a.tmps, params := ps, assign, body, defers := w.heap.size })) (z := 0)
            (b := .loop fr.fn fr.nt fr.mask st.tm ps.toList assign body .ready none st.h.next) R1.none_next (Nat.le_refl _) (Nat.lt_succ_self _) (Nat.le_succ _) (by simp)
            (fun k hk => heap_alloc_old _ _ k hk) (heap_alloc_new _ _) ⟨_, (w.heap.size, 0, 0), rfl, rfl, rfl, rfl, rfl, rfl, hle2 _ _ hdid, rfl, hS.1.size, fun t v hb ht => let ⟨x, q1, q2⟩ := htm t v hb ht; ⟨x, q1, VR_mono (Mu.le_trans hle hle2) q2⟩⟩ rfl rfl rfl (fun a _ => other_fz _ _ (fun _ _ _ h => by cases h) a)
          refine ⟨_, _, _, upd (upd μ st.h.next (some (w.heap.size, 0, 0))) (st.h.new .defs).next (some ((w.alloc (.deferred (some []))).heap.size, 0, 0)), run_enterLoop_outer fn a.tmps ps assign body, ?_, ?_, ⟨((w.alloc (.deferred (some []))).heap.size, 0, 0), by simp [upd], by simp⟩, ?_, Nat.le_succ _⟩
          · rw [H.get_new]; exact R2
          · rw [H.get_new]; exact Stp.trans S1 S2 (Nat.le_succ _)
          · exact ⟨(w.heap.size, 0, 0), [], hle2 _ _ hdid, rfl, rfl⟩
        | some l =>
          rw [hrd] at hl
          unfold loopDfr at hl
          simp only at hl
          split at hl
          · rename_i fn' nt' mask' tm' ps' assign' body' s' pend' d' hb
            cases hl
            have hFr : ∃ p, μ l = some p ∧ ro = some p.1 := by unfold FR at hF; rw [hrd] at hF; exact hF
            obtain ⟨p, hp, rfl⟩ := hFr
            have R := hS.2
            obtain ⟨p', o, hp', ho, L, q, rfl, e1, e2, e3, e4, e5, e6, e7, e8, e9⟩ := R.blk _ _ hb
            rw [hp] at hp'
            cases hp'
            have hle2 : μ.le (upd μ st.h.next (some (w.heap.size, 0, 0))) := by
              intro j q hj
              unfold upd
              split
              · rename_i e; rw [e, R.none_next] at hj; cases hj
              · exact hj
            obtain ⟨R2, S2⟩ := R.alloc (w' := w.alloc (.loop { state := .ready, pending := none, fn, tmps := a.tmps, params := ps, assign, body, defers := L.defers })) (z := 0)
              (b := .loop fr.fn fr.nt fr.mask st.tm ps.toList assign body .ready none d) R.none_next (Nat.le_refl _) (Nat.lt_succ_self _) (Nat.le_succ _) (by simp)
              (fun k hk => heap_alloc_old _ _ k hk) (heap_alloc_new _ _) ⟨_, q, rfl, rfl, rfl, rfl, rfl, rfl, hle2 _ _ e6, e7, hS.1.size, fun t v hb ht => let ⟨x, q1, q2⟩ := htm t v hb ht; ⟨x, q1, VR_mono hle2 q2⟩⟩ rfl rfl rfl (fun a _ => other_fz _ _ (fun _ _ _ h => by cases h) a)
            refine ⟨w.heap.size, [], w.alloc (.loop { state := .ready, pending := none, fn, tmps := a.tmps, params := ps, assign, body, defers := L.defers }), upd μ st.h.next (some (w.heap.size, 0, 0)), ?_, ?_, ?_, ⟨(w.heap.size, 0, 0), by simp [upd], rfl⟩, rfl, Nat.le_refl _⟩
            · simp [Instr.enterLoop, run_getLoop ho]
            · rw [H.get_new]; exact R2
            · rw [H.get_new]; exact S2
          · cases hl
      refine wpIn_rangeFunc fun fn _ => ?_
      obtain ⟨l, mark, w₁, μ1, k1, k2, k3, ⟨p, k4, k5⟩, k6, k7⟩ := lay fn
      have hargs : VRs ρ μ1 (av ++ [.func (.yield h.next) [] []] ++ bv) ((a' ++ #[Value.func (.yield l) #[] #[]]) ++ b').toList := by
        rw [Array.toList_append, Array.toList_append]
        refine VRs_append (VRs_append (VRs_mono k3.le f3) ?_) (VRs_mono k3.le f4)
        refine VRs_cons.2 ⟨_, [], rfl, ?_, VRs_nil.2 rfl⟩
        rw [VR]
        exact ⟨_, _, _, rfl, ⟨p, k4, by rw [k5]⟩, VRs_nil.2 rfl, VRs_nil.2 rfl⟩
      obtain ⟨c1, c2⟩ := callE_spec (P := P) rOK xOK (h := h.new (.loop fr.fn fr.nt fr.mask st.tm ps.toList assign body .ready none d)) (by rw [H.next_new]; exact k2) hargs h3
      refine ⟨l, mark, w₁, { target := .fn (.func g) b', args := a' ++ #[Value.func (.yield l) #[] #[]] }, w₁, g, (a' ++ #[Value.func (.yield l) #[] #[]]) ++ b', w₁, k1, ?_, fun _ _ => trivial, c1 w₁, (fun h => by cases h), ?_⟩
      · have hmap : (#[Operand.const (Value.func (.yield l) #[] #[])] : Array Operand).map a.eval = #[Value.func (.yield l) #[] #[]] := by simp [Act.eval]
        simp only [resolve, rangeCall, f1, hmap, Deferred.ofValue, Sem.run_pure]
      · refine CallsIn.mono (F := fen ro) (show CallsIn (fen ro) 0 P g _ w₁ _ from c2) ?_
        rintro e w3 ⟨x, μ2, rfl, v1, R2, S2, n2⟩
        simp only [H.next_new] at n2 S2
        simp only [rangePost]
        unfold rangeEnd at hr
        split at hr
        · rename_i fn' nt' mask' tm0 ps' assign' body' s pend d' hb
          have hp2 := S2.le _ _ k4
          have key : ∀ e, s ≠ .busy → res = (e, ⟨st.tm, h2.set h.next (.loop fn' nt' mask' tm0 ps' assign' body' .exhausted pend d'), mk ++ st.marks⟩) →
              ∃ jump w4, (Instr.endLoop l).run P w3 = .ok jump w4 ∧ jump = pend ∧ CPost ρ μ fr st w res e.exit' { a with defers := mark ++ a.defers } w4 := by
            intro e hs hres
            obtain ⟨L, j1, j2, _, _, _, j3, _, _, R3, S3⟩ := loop_put .exhausted pend R2 hb hp2
            rw [k5] at j1
            have hL : ({ L with state := .exhausted } : Loop) = { L with state := .exhausted, pending := pend } := by rw [← j3]
            refine ⟨L.pending, _, run_endLoop j1 (by rw [j2]; exact hs), j3, ?_⟩
            rw [hL, hres]
            rw [k5] at R3 S3
            have hall := Stp.trans (Stp.trans k3 S2 (Nat.le_trans k7 (Nat.le_succ _))) S3 (Nat.le_trans k7 (Nat.le_trans (Nat.le_succ _) n2))
            refine ⟨rfl, μ2, ⟨⟨hS.1.size, TmR_mono hall.le hS.1.tmr, ?_, rfl⟩, R3⟩, hall, Nat.le_trans k7 (Nat.le_trans (Nat.le_succ _) n2)⟩
            have app : ∀ {ms ns : List Nat} {ds es : List Deferred}, DR μ2 ms ds → DR μ2 ns es → DR μ2 (ms ++ ns) (ds ++ es) := by
              intro ms
              induction ms with
              | nil => intro ns ds es h1 h2; simp only [DR] at h1; subst h1; exact h2
              | cons m ms ih =>
                intro ns ds es h1 h2
                obtain ⟨p, ds', q1, rfl, q2⟩ := h1
                exact ⟨p, ds' ++ es, q1, rfl, ih q2 h2⟩
            exact app (DR_mono S2.le k6) (DR_mono hall.le hS.1.dfr)
          split at hr
          · cases hr
          · rename_i hns
            split at hr
            · cases hr
              obtain ⟨jump, w4, q1, q2, q3⟩ := key .normal hns rfl
              exact ⟨jump, w4, q1, by rw [q2]; exact q3⟩
            · rename_i c
              split at hr
              · rename_i e he
                cases hr
                obtain ⟨jump, w4, q1, q2, q3⟩ := key e hns rfl
                refine ⟨jump, w4, q1, ?_⟩
                rw [q2]
                simp only
                unfold exitOf at he
                split at he
                · cases he; exact wpIn_ret q3
                · cases he; exact wpIn_exit q3
                · cases he; exact wpIn_goto q3
                · cases he
              · cases hr
        · cases hr
    · cases hr

theorem codeA_spec (rOK : RecOK P ρ r) (xOK : HooksOK P ρ X pc) (hp : pc.holds ρ) (hm : P.follows .mixedOrders = true) : CodeOK P ρ (codeA P X pc r) := by
  intro fr c st x hr μ ro a w hF hS
  cases c with
  | skip =>
    have h0 : Res.ok (Ex.normal, st) = .ok x := hr
    cases h0
    exact wpIn_skip ⟨rfl, μ, hS, Stp.refl _ _ _ _, Nat.le_refl _⟩
  | label l =>
    have h0 : Res.ok (Ex.normal, st) = .ok x := hr
    cases h0
    exact wpIn_label ⟨rfl, μ, hS, Stp.refl _ _ _ _, Nat.le_refl _⟩
  | exit id =>
    have h0 : Res.ok (Ex.exit id, st) = .ok x := hr
    cases h0
    exact wpIn_exit ⟨rfl, μ, hS, Stp.refl _ _ _ _, Nat.le_refl _⟩
  | goto l =>
    have h0 : Res.ok (Ex.goto l, st) = .ok x := hr
    cases h0
    exact wpIn_goto ⟨rfl, μ, hS, Stp.refl _ _ _ _, Nat.le_refl _⟩
  | ret =>
    have h0 : Res.ok (Ex.ret, st) = .ok x := hr
    cases h0
    exact wpIn_ret ⟨rfl, μ, hS, Stp.refl _ _ _ _, Nat.le_refl _⟩
  | refuse why => cases hr
  | region id ops draw =>
    cases draw with
    | false =>
      have h0 : ((opsA P X pc r fr ops.toList ops.toList (tmOf fr st) st.h).bind fun x => .ok (Ex.normal, (⟨x.1.tree, x.2, st.marks⟩ : St))) = .ok x := hr
      obtain ⟨⟨tm', h'⟩, h1, h2⟩ := Res.bind_eq_ok h0
      cases h2
      refine wpIn_region ?_
      rw [List.range_eq_range', ← Array.length_toList]
      exact opsA_spec rOK xOK hp hS.1 hS.2 rfl h1 fun μ' a' w' A' R' S' n' => ⟨rfl, μ', ⟨A'.tree, R'⟩, S', n'⟩
    | true =>
      have h0 : ((regionD P X pc r fr ops.toList (tmOf fr st) st.h).bind fun x => .ok (Ex.normal, (⟨x.1.tree, x.2, st.marks⟩ : St))) = .ok x := hr
      obtain ⟨⟨tm', h'⟩, h1, h2⟩ := Res.bind_eq_ok h0
      cases h2
      refine wpIn_region_any hm ?_
      exact regionD_spec rOK xOK hp hS.1 (w := { w with drawn := w.drawn + 1 }) ⟨hS.2.blk, hS.2.inj, hS.2.fresh, hS.2.glob⟩ h1 fun μ' a' w' A' R' S' n' => ⟨rfl, μ', ⟨A'.tree, R'⟩, S'.drew, n'⟩
  | seq c1 c2 =>
    have h0 : (r.code fr c1 st).bind (cSeq r fr c2) = .ok x := hr
    obtain ⟨⟨e1, st1⟩, h1, h2⟩ := Res.bind_eq_ok h0
    refine wpIn_seq (wpIn_mono (rOK.code _ _ _ _ h1 _ _ _ _ hF hS) ?_)
    rintro e a1 w1 ⟨rfl, μ1, hS1, S1, n1⟩
    cases e1 with
    | normal =>
      have h3 : r.code fr c2 st1 = .ok x := h2
      exact wpIn_mono (rOK.code _ _ _ _ h3 _ _ _ _ (FR_mono S1.le hF) hS1) fun e a2 w2 hq => CPost_after S1 n1 hq
    | exit id => cases h2; exact ⟨rfl, μ1, hS1, S1, n1⟩
    | goto l => cases h2; exact ⟨rfl, μ1, hS1, S1, n1⟩
    | ret => cases h2; exact ⟨rfl, μ1, hS1, S1, n1⟩
  | cond c t f => exact cond_spec hp rOK hF hS hr
  | block id b =>
    have h0 : (r.code fr b st).bind (cOut id) = .ok x := hr
    obtain ⟨⟨e1, st1⟩, h1, h2⟩ := Res.bind_eq_ok h0
    refine wpIn_block (wpIn_mono (rOK.code _ _ _ _ h1 _ _ _ _ hF hS) ?_)
    rintro e a1 w1 ⟨rfl, μ1, hS1, S1, n1⟩
    cases e1 with
    | exit j =>
      have h3 : (bif Nat.beq j id then .ok (Ex.normal, st1) else .ok (Ex.exit j, st1)) = Res.ok x := h2
      rcases cond_eq h3 with ⟨h4, h5⟩ | ⟨h4, h5⟩
      · cases h5
        have := beq_eq h4
        simp only [Ex.exit', Exit.inBlock, this, if_true]
        exact ⟨rfl, μ1, hS1, S1, n1⟩
      · cases h5
        have : ¬ j = id := fun e => by subst e; simp at h4
        simp only [Ex.exit', Exit.inBlock, this, if_false]
        exact ⟨rfl, μ1, hS1, S1, n1⟩
    | normal => cases h2; exact ⟨rfl, μ1, hS1, S1, n1⟩
    | goto l => cases h2; exact ⟨rfl, μ1, hS1, S1, n1⟩
    | ret => cases h2; exact ⟨rfl, μ1, hS1, S1, n1⟩
  | loop b => exact rOK.loop _ _ _ _ hr _ _ _ _ hF hS
  | rangeFunc f ps assign body => exact range_spec rOK xOK hF hS hr
  | scope b =>
    have h0 : (r.code fr b st).bind cNoGoto = .ok x := hr
    obtain ⟨⟨e1, st1⟩, h1, h2⟩ := Res.bind_eq_ok h0
    refine wpIn_scope (wpIn_mono (rOK.code _ _ _ _ h1 _ _ _ _ hF hS) ?_)
    rintro e a1 w1 ⟨rfl, μ1, hS1, S1, n1⟩
    cases e1 with
    | goto l => cases h2
    | normal => cases h2; exact ⟨rfl, μ1, hS1, S1, n1⟩
    | exit l => cases h2; exact ⟨rfl, μ1, hS1, S1, n1⟩
    | ret => cases h2; exact ⟨rfl, μ1, hS1, S1, n1⟩

/-! ### Functions -/
theorem Rel.drop {g : G} {nx : Nat} {w' : World} {id : Nat} {b : Blk} {p : Loc} (R : Rel ρ μ g nx w) (hb : g id = some b) (ho : b.own = true) (hp : μ id = some p)
    (hs : w'.heap.size = w.heap.size) (hk : ∀ k, k ≠ p.1 → w'.heap[k]? = w.heap[k]?) (h1 : w'.tape = w.tape) (h2 : w'.os = w.os) (h3 : w'.output = w.output) (h4 : ∀ a, w'.frozen? a = w.frozen? a) :
    Rel ρ μ (upd g id none) nx w' ∧ Stp μ g nx w μ (upd g id none) w' := by
  have sub : ∀ j b, upd g id none j = some b → j ≠ id ∧ g j = some b := by
    intro j b h
    unfold upd at h
    split at h
    · cases h
    · rename_i e; exact ⟨e, h⟩
  refine ⟨⟨?_, ?_, R.fresh, R.glob⟩, Mu.le_refl _, fun _ _ h => .inl h, fun j b h => .inl ⟨b, (sub j b h).2⟩, by rw [hs]; exact Nat.le_refl _, h1, h2, h3, ?_, fun j b p h h' => .inr ⟨j, b, p, (sub j b h).2, h', rfl, fun h => h⟩, fun a _ => h4 a⟩
  · intro j c hc
    obtain ⟨hj, hc⟩ := sub j c hc
    obtain ⟨q, o, h4, h5, h6⟩ := R.blk j c hc
    exact ⟨q, o, h4, by rw [hk _ (fun e => R.inj id j b c p q hb hc ho (fun h => hj h.symm) hp h4 e.symm), h5], h6⟩
  · intro i j c c' q r hi hj hoc hne hq hr
    exact R.inj i j c c' q r (sub i c hi).2 (sub j c' hj).2 hoc hne hq hr
  · intro k _ hno
    exact hk k (fun e => hno id b p hb ho hp e.symm)

theorem takeA_spec {fn : Func} {tmps : Array Value} {RR : Ending → World → Prop} : ∀ {ms : List Nat} {ds : List Deferred} {h h' : H} {w : World}, DR μ ms ds → Rel ρ μ h.get h.next w → takeA h ms = .ok h' →
    (∀ w', Rel ρ μ h'.get h'.next w' → Stp μ h.get h.next w μ h'.get w' → h'.next = h.next → ∃ v, (results fn tmps).run P w' = .ok v w' ∧ RR (.returned v) w') → LeavesInM Fence.wide 0 P fn tmps RR ds .returning w := by
  intro ms
  induction ms with
  | nil =>
    intro ds h h' w hd R hr K
    simp only [DR] at hd
    subst hd
    cases hr
    exact K w R (Stp.refl _ _ _ _) rfl
  | cons id ms ih =>
    intro ds h h' w hd R hr K
    obtain ⟨p, ds', h1, rfl, h2⟩ := hd
    simp only [takeA] at hr
    split at hr
    · rename_i hb
      obtain ⟨p', o, hp', ho, rfl⟩ := R.blk _ _ hb
      rw [h1] at hp'
      cases hp'
      obtain ⟨q1, q2, q3⟩ := putObj_props (o' := .deferred none) ho
      obtain ⟨R1, S1⟩ := R.drop (w' := w.putObj p.1 (.deferred none)) hb rfl h1 q1 q2 rfl rfl rfl (put_fz ho (fun _ _ _ h => by cases h) (fun _ _ _ h => by cases h))
      rw [← H.get_del] at R1 S1
      refine ⟨by simp, .inl ⟨p.1, _, rfl, run_takeDeferred ho, ?_⟩⟩
      exact ih h2 R1 hr fun w' R' S' n' => K w' R' (Stp.trans S1 S' (Nat.le_refl _)) n'
    · cases hr

/-- One result variable. -/
def resF (tmps : Array Value) : ResultVar → Sem Value
  | .tmp t => pure (tmps.getD t undef)
  | .cell a t => do loadVar t (← asAddr (tmps.getD a undef))

theorem resultsA_spec {tm : Tm} {h : H} {tmps : Array Value} {nx : Nat} (hm : TmR ρ μ tm tmps) (R : Rel ρ μ h.get nx w) : ∀ {rs : List ResultVar} {vs : List AV}, resultsA P tm h rs = .ok vs →
    ∃ us, (rs.mapM (resF tmps)).run P w = .ok us w ∧ VRs ρ μ vs us := by
  intro rs
  induction rs with
  | nil => intro vs hr; cases hr; exact ⟨[], by simp, VRs_nil.2 rfl⟩
  | cons x rs ih =>
    intro vs hr
    cases x with
    | tmp t =>
      obtain ⟨v, h1, hr⟩ := Res.bind_eq_ok hr
      obtain ⟨vs', h2, hr⟩ := Res.bind_eq_ok hr
      cases hr
      obtain ⟨us, h3, h4⟩ := ih h2
      obtain ⟨u, h5, h6⟩ := hm t v (Res.ofO_eq_ok h1)
      refine ⟨u :: us, ?_, VRs_cons.2 ⟨u, us, rfl, h6, h4⟩⟩
      have : (resF tmps (.tmp t)).run P w = .ok u w := by simp [resF, Array.getD_eq_getD_getElem?, h5]
      simp [List.mapM_cons, this, h3]
    | cell a t =>
      obtain ⟨pv, h1, hr⟩ := Res.bind_eq_ok hr
      obtain ⟨v, h1', hr⟩ := Res.bind_eq_ok hr
      obtain ⟨vs', h2, hr⟩ := Res.bind_eq_ok hr
      cases hr
      obtain ⟨us, h3, h4⟩ := ih h2
      obtain ⟨u, h5, h6⟩ := hm a pv (Res.ofO_eq_ok h1)
      obtain ⟨y, h7, h8⟩ := aLoad_spec (P := P) R (fun _ _ _ h => h) h6 h1'
      have hsh : ∃ ad, u = .pointer (some ad) := by
        unfold aLoad at h1'
        split at h1'
        · rw [VR] at h6; obtain ⟨p, _, rfl⟩ := h6; exact ⟨_, rfl⟩
        · rw [VR] at h6; obtain ⟨p, j, _, _, _, rfl⟩ := h6; exact ⟨_, rfl⟩
        · cases h1'
      obtain ⟨ad, rfl⟩ := hsh
      refine ⟨y :: us, ?_, VRs_cons.2 ⟨y, us, rfl, h8, h4⟩⟩
      have : (resF tmps (.cell a t)).run P w = .ok y w := by
        have h7 : (loadVar t ad).run P w = .ok y w := by simpa [Instr.loadAt, Instr.sureAddr] using h7
        simp [resF, Array.getD_eq_getD_getElem?, h5, asAddr, h7]
      simp [List.mapM_cons, this, h3]

theorem results_run {fn : Func} {tm : Tm} {h : H} {tmps : Array Value} {nx : Nat} {vs : List AV} (hm : TmR ρ μ tm tmps) (R : Rel ρ μ h.get nx w) (hr : resultsA P tm h fn.results.toList = .ok vs) :
    ∃ v, (results fn tmps).run P w = .ok v w ∧ VR ρ μ (oneOf vs) v := by
  obtain ⟨us, h1, h2⟩ := resultsA_spec (P := P) hm R hr
  have hm : (fn.results.mapM (resF tmps)).run P w = .ok us.toArray w := by
    rw [Array.mapM_eq_mapM_toList, Sem.run_map, h1]; rfl
  refine ⟨if h : us.toArray.size = 1 then us.toArray[0] else .tuple us.toArray, ?_, ?_⟩
  · have hres : results fn tmps = (do let vs ← fn.results.mapM (resF tmps); pure (if h : vs.size = 1 then vs[0] else .tuple vs)) := by
      unfold results
      congr 2
    rw [hres, Sem.run_bind, hm]; rfl
  · have hl := VRs_length h2
    unfold oneOf
    split
    · rename_i v
      rw [VRs_cons] at h2
      obtain ⟨y, r, rfl, h3, h4⟩ := h2
      rw [VRs_nil] at h4
      subst h4
      simpa using h3
    · rename_i hne
      have : ¬ us.toArray.size = 1 := by
        intro e
        have e' : vs.length = 1 := by rw [hl]; simpa using e
        obtain ⟨v, hv⟩ := List.length_eq_one_iff.1 e'
        exact hne v hv
      rw [dif_neg this, VR]
      exact ⟨_, rfl, h2⟩

theorem argsT_get {mask : Nat} : ∀ {vs : List AV} {k : Nat} {t : T AV} {j : Nat} {v : AV}, (argsT mask t k vs).get j = some v → bit mask j = true → (k ≤ j ∧ vs[j - k]? = some v) ∨ t.get j = some v := by
  intro vs
  induction vs with
  | nil => intro k t j v h _; exact .inr h
  | cons x vs ih =>
    intro k t j v h hb
    have h0 : (argsT mask (bif bit mask k then t.put k x else t) (k + 1) vs).get j = some v := h
    rcases ih h0 hb with ⟨h1, h2⟩ | h1
    · refine .inl ⟨by omega, ?_⟩
      have e : j - k = (j - (k + 1)) + 1 := by omega
      rw [e]; simpa using h2
    · rcases Bool.eq_false_or_eq_true (bit mask k) with e | e
      · rw [e, cond_true, T.get_put] at h1
        by_cases ej : j = k
        · rw [if_pos ej] at h1
          cases h1
          subst ej
          exact .inl ⟨Nat.le_refl _, by simp⟩
        · rw [if_neg ej] at h1
          exact .inr h1
      · rw [e, cond_false] at h1
        exact .inr h1

theorem fnA_spec (rOK : RecOK P ρ r) (f : Nat) : FnOK P ρ (fnA P r f) f := by
  intro args h v h' hr
  unfold fnA at hr
  split at hr
  · cases hr
  · rename_i fn hfn
    split at hr
    · cases hr
    · rename_i c hc
      rcases cond_eq hr with ⟨h1, hr⟩ | ⟨h1, hr⟩
      · cases hr
      · rcases cond_eq hr with ⟨h2, hr⟩ | ⟨_, hr⟩
        · refine ⟨⟨fn, hfn, by rw [hc]; rfl, h1⟩, ?_⟩
          intro μ w us R hv
          have h2 : args.length ≤ fn.ntmps := by simpa using h2
          have hl := VRs_size hv
          obtain ⟨⟨e, st⟩, h3, hr⟩ := Res.bind_eq_ok hr
          refine callsIn_of_wp_marks hfn hc trivial ?_
          have hA : AR ρ μ ⟨f, fn.ntmps, maskOf fn, none⟩ ⟨maskOf fn, argsT (maskOf fn) .nil 0 args, []⟩ [] { tmps := us ++ Array.replicate (fn.ntmps - us.size) undef, defers := [] } := by
            refine ⟨by simp; omega, ?_, rfl, rfl⟩
            intro t b ht
            rw [Tm.get_eq] at ht
            simp only at ht
            split at ht
            · rename_i hb
              rcases argsT_get ht hb with ⟨_, h4⟩ | h4
              · rw [Nat.sub_zero] at h4
                obtain ⟨x, h5, h6⟩ := VRs_get hv _ _ h4
                rw [Array.getElem?_toList] at h5
                refine ⟨x, ?_, h6⟩
                rw [Array.getElem?_append_left (Array.getElem?_eq_some_iff.1 h5).1]
                exact h5
              · rw [T.get_nil] at h4; cases h4
            · cases ht
          refine wpIn_mono (rOK.code _ _ _ _ h3 μ none _ w rfl ⟨hA, R⟩) ?_
          rintro e2 a' w' ⟨he, μ', ⟨A', R'⟩, S', n'⟩
          simp only at he A' R' S' n' hr
          unfold fnEnd at hr
          have fin : ∀ {hh : H} {vs : List AV}, takeA st.h st.marks = .ok hh → resultsA P ⟨maskOf fn, st.tm, []⟩ hh fn.results.toList = .ok vs → v = oneOf vs → h' = hh →
              LeavesInM Fence.wide 0 P fn a'.tmps (FnPost ρ μ h w v h') a'.defers .returning w' := by
            intro hh vs q1 q2 q3 q4
            refine takeA_spec A'.dfr R' q1 ?_
            intro w2 R2 S2 n2
            obtain ⟨y, r1, r2⟩ := results_run (P := P) (tm := ⟨maskOf fn, st.tm, []⟩) A'.tmr R2 q2
            refine ⟨y, r1, y, μ', rfl, by rw [q3]; exact r2, ?_, ?_, ?_⟩
            · rw [q4]; exact R2
            · rw [q4]; exact Stp.trans S' S2 n'
            · rw [q4, n2]; exact n'
          cases e with
          | normal =>
            obtain ⟨hh, q1, hr⟩ := Res.bind_eq_ok hr
            obtain ⟨vs, q2, hr⟩ := Res.bind_eq_ok hr
            cases hr
            subst he
            exact fin q1 q2 rfl rfl
          | ret =>
            obtain ⟨hh, q1, hr⟩ := Res.bind_eq_ok hr
            obtain ⟨vs, q2, hr⟩ := Res.bind_eq_ok hr
            cases hr
            subst he
            exact fin q1 q2 rfl rfl
          | exit id => cases hr
          | goto l => cases hr
        · cases hr

/-! ### The whole -/
def RoundsOK (P : Program) (ρ : Env) (X : Hooks) (pc : PC) (k : Nat) : Prop :=
  ∀ fr c st x, (iter P X pc k).loop fr c st = .ok x → ∀ μ ro a w, FR μ fr ro → StR ρ μ fr st a w → Code.roundsIn (fen ro) 0 P c (CPost ρ μ fr st w x) k a w

theorem rounds_mono {ro : Option Nat} {c : Code} : ∀ {m : Nat} {Q Q' : Exit → Act → World → Prop} {a : Act} {w : World}, (∀ e a w, Q e a w → Q' e a w) → Code.roundsIn (fen ro) 0 P c Q m a w → Code.roundsIn (fen ro) 0 P c Q' m a w := by
  intro m
  induction m with
  | zero => intro Q Q' a w _ h; exact h
  | succ m ihm =>
    intro Q Q' a w hq h
    rw [roundsIn_succ] at h ⊢
    refine wpIn_mono h ?_
    intro e a w h
    cases e with
    | normal => exact ihm hq h
    | _ => exact hq _ _ _ h

theorem rounds_succ {k : Nat} (hcode : CodeOK P ρ (iter P X pc k).code) (ih : RoundsOK P ρ X pc k) : RoundsOK P ρ X pc (k + 1) := by
  intro fr c st x hr μ ro a w hF hS
  have h0 : ((iter P X pc k).code fr c st).bind (loopNext (iter P X pc k) fr c) = .ok x := hr
  obtain ⟨⟨e1, st1⟩, h1, h2⟩ := Res.bind_eq_ok h0
  rw [roundsIn_succ]
  refine wpIn_mono (hcode _ _ _ _ h1 _ _ _ _ hF hS) ?_
  rintro e a1 w1 ⟨rfl, μ1, hS1, S1, n1⟩
  cases e1 with
  | normal =>
    have h3 : (iter P X pc k).loop fr c st1 = .ok x := h2
    exact rounds_mono (fun e a2 w2 hq => CPost_after S1 n1 hq) (ih fr c st1 x h3 μ1 ro a1 w1 (FR_mono S1.le hF) hS1)
  | exit id => cases h2; exact ⟨rfl, μ1, hS1, S1, n1⟩
  | goto l => cases h2; exact ⟨rfl, μ1, hS1, S1, n1⟩
  | ret => cases h2; exact ⟨rfl, μ1, hS1, S1, n1⟩

theorem iter_ok (xOK : HooksOK P ρ X pc) (hp : pc.holds ρ) (hm : P.follows .mixedOrders = true) : ∀ k, RecOK P ρ (iter P X pc k) ∧ RoundsOK P ρ X pc k := by
  intro k
  induction k with
  | zero =>
    refine ⟨⟨?_, ?_, ?_⟩, ?_⟩
    · intro fr c st x h; cases h
    · intro fr c st x h; cases h
    · intro f args h v h' hr; cases hr
    · intro fr c st x h; cases h
  | succ k ih =>
    have hr := rounds_succ ih.1.code ih.2
    exact ⟨⟨codeA_spec ih.1 xOK hp hm, fun fr c st x h μ ro a w hF hS => wpIn_loop_rounds (k + 1) (hr fr c st x h μ ro a w hF hS), fun f => fnA_spec ih.1 f⟩, hr⟩

/-- WHAT THE EVALUATOR TELLS OF A CALL HOLDS OF THE MODEL. -/
theorem run_sound (xOK : HooksOK P ρ X pc) (hp : pc.holds ρ) (hm : P.follows .mixedOrders = true) {k f : Nat} {args : List AV} {h h' : H} {v : AV} {us : Array Value} (R : Rel ρ μ h.get h.next w) (hv : VRs ρ μ args us.toList)
    (hx : X.ext f = none) (hr : run P X pc k f args h = .ok (v, h')) : Calls P f us w (FnPost ρ μ h w v h') := by
  have h1 : callE X pc (iter P X pc k) f args h = .ok (v, h') := by
    unfold run callF at hr
    unfold callE
    rw [hx] at hr ⊢
    exact hr
  exact callsIn_wide.1 (callE_spec (iter_ok xOK hp hm k).1 xOK R hv h1).2

end
end Go.Ev

