/- Operations, and regions in the text's order; no theorem of the program yet; no conditions. -/
import Derived.Test.YtlngklpiapbpmaaEvR
set_option linter.unusedSimpArgs false
set_option linter.unusedVariables false
namespace Go.Ev
section
variable {ρ : Env} {μ : Mu} {P : Program} {pc : PC} {w : World} {X : Hooks} {r : Rec}

theorem callO_spec (rOK : RecOK P ρ r) (xOK : HooksOK P ρ X pc) {c : Call} {ty : TypeId} {ea : Operand → Res AV} {rv : Operand → Value} {h h' : H} {v : AV} (R : Rel ρ μ h.get h.next w) (he : EaR ρ μ (.call c) ea rv)
    (hr : callO X pc r ea c h = .ok (v, h')) : CallR ρ μ P h w v h' ((do let d ← resolve rv c ty; invoke d.target d.args : Sem Next).run P w) := by
  unfold callO at hr
  obtain ⟨vs, h1, hr⟩ := Res.bind_eq_ok hr
  have hvs : VRs ρ μ vs (c.args.map rv).toList := by
    rw [Array.toList_map]
    exact argsA_spec (fun x hx a h => he x (by simp only [Op.operands, Call.operands]; exact Array.mem_append.2 (.inr (by simpa using hx))) a h) h1
  split at hr
  · rename_i f hf
    obtain ⟨fv, h2, hr⟩ := Res.bind_eq_ok hr
    have hfv := he f (by simp only [Op.operands, Call.operands, hf]; exact Array.mem_append.2 (.inl (by simp))) fv h2
    unfold callV at hr
    split at hr
    · rename_i g a b
      rw [VR] at hfv
      obtain ⟨g', a', b', h3, h4, h5, h6⟩ := hfv
      simp only [fnR] at h4
      subst h4
      have := callF_spec rOK xOK (us := (a' ++ c.args.map rv) ++ b') R (by rw [Array.toList_append, Array.toList_append]; exact VRs_append (VRs_append h5 hvs) h6) hr
      simpa [resolve, hf, h3, Deferred.ofValue, invoke] using this
    · rename_i l a b
      rw [VR] at hfv
      obtain ⟨g', a', b', h3, h4, h5, h6⟩ := hfv
      simp only [fnR] at h4
      obtain ⟨p, hp, rfl⟩ := h4
      have := yieldA_spec (P := P) rOK (us := a' ++ c.args.map rv) R hp (by rw [Array.toList_append]; exact VRs_append h5 hvs) hr
      simpa [resolve, hf, h3, Deferred.ofValue, invoke] using this
    · cases hr
  · rename_i x name hf
    obtain ⟨recv, h2, hr⟩ := Res.bind_eq_ok hr
    have hrv := he x (by simp only [Op.operands, Call.operands, hf]; exact Array.mem_append.2 (.inl (by simp))) recv h2
    unfold invokeA at hr
    split at hr
    · rename_i t y
      split at hr
      · rename_i f hm
        rw [VR] at hrv
        obtain ⟨y', h3, h4⟩ := hrv
        have := callF_spec rOK xOK (us := #[y'] ++ c.args.map rv) R (VRs_cons.2 ⟨y', (c.args.map rv).toList, by simp, h4, hvs⟩) hr
        have hex : (#[Value.iface t y'] ++ c.args.map rv).extract 1 (#[Value.iface t y'] ++ c.args.map rv).size = c.args.map rv := by
          generalize c.args.map rv = xs
          apply Array.ext_getElem?
          intro i
          simp only [Array.getElem?_extract]
          have e : (#[Value.iface t y'] ++ xs).size = 1 + xs.size := by simp
          by_cases hi : i < xs.size
          · rw [if_pos (by omega), Array.getElem?_append_right (by simp)]
            congr 1; simp
          · rw [if_neg (by omega), Array.getElem?_eq_none (by omega)]
        have h0 : (#[Value.iface t y'] ++ c.args.map rv)[0]? = some (.iface t y') := by rw [Array.getElem?_append_left (Nat.zero_lt_one)]; rfl
        have hm' := xOK.mth t name f hm y' w
        simp only [resolve, hf, h3, Sem.run_bind, Sem.run_pure, Result.andThen_ok, invoke]
        rw [h0, hex]
        simp only [callMethod, program, Sem.run_bind, Sem.run, Result.andThen_ok, hm']
        exact this
      · cases hr
    · cases hr
  · cases hr

theorem opA_spec (rOK : RecOK P ρ r) (xOK : HooksOK P ρ X pc) (hp : pc.holds ρ) {o : Oper} {ro : Option Nat} {ea : Operand → Res AV} {a : Act} {h h' : H} {v : Option AV} (R : Rel ρ μ h.get h.next w) (he : EaR ρ μ o.op ea a.eval)
    (hr : opA P X pc r ea h o.op = .ok (v, h')) {next : Act → World → Prop} {Q : Exit → Act → World → Prop}
    (K : ∀ x w' μ', Rel ρ μ' h'.get h'.next w' → Stp μ h.get h.next w μ' h'.get w' → h.next ≤ h'.next → (∀ b, v = some b → VR ρ μ' b x) → next (a.put o.dst x) w') : o.wpIn (fen ro) 0 P a w next Q := by
  refine ⟨fun _ _ => trivial, ?_⟩
  have sem : (∀ c, o.op ≠ .defer c) → o.semAt (fen ro).round a.eval = execOp a.eval o := fun hd => Oper.semAt_eq _ _ _ hd
  unfold opA opC at hr
  have nd : (∀ hc, cls P pc ea o.op = hc → hc ≠ .no) → ∀ c, o.op ≠ .defer c := by
    intro h1 c h2
    exact h1 .no (by rw [h2]; rfl) rfl
  cases hc : cls P pc ea o.op with
  | pure x =>
    rw [hc] at hr
    rw [sem (nd (fun y hy => by rw [hc] at hy; subst hy; simp))]
    have h0 : (x.bind fun v => .ok (some v, h)) = .ok (v, h') := hr
    obtain ⟨b, h1, h2⟩ := Res.bind_eq_ok h0
    cases h2
    subst h1
    obtain ⟨y, h3, h4⟩ := pure_spec (w := w) hp he hc
    rw [h3]
    exact K y w μ R (Stp.refl _ _ _ _) (Nat.le_refl _) fun c hc => by cases hc; exact h4
  | load f =>
    rw [hc] at hr
    rw [sem (nd (fun y hy => by rw [hc] at hy; subst hy; simp))]
    have h0 : ((f h).bind fun v => .ok (some v, h)) = .ok (v, h') := hr
    obtain ⟨b, h1, h2⟩ := Res.bind_eq_ok h0
    cases h2
    obtain ⟨y, h3, h4⟩ := load_spec R (fun _ _ _ _ _ _ _ hb => hb) he hc h1
    rw [h3]
    exact K y w μ R (Stp.refl _ _ _ _) (Nat.le_refl _) fun c hc => by cases hc; exact h4
  | alloc x =>
    rw [hc] at hr
    rw [sem (nd (fun y hy => by rw [hc] at hy; subst hy; simp))]
    have h0 : (x.bind fun x => .ok (some (x.2 h.next), h.new x.1)) = .ok (v, h') := hr
    obtain ⟨⟨b, mk⟩, h1, h2⟩ := Res.bind_eq_ok h0
    cases h2
    subst h1
    obtain ⟨c, e, y, h3, h4, h5⟩ := alloc_spec (w := w) hp he hc
    rw [h3]
    have hle : μ.le (upd μ h.next (some (w.heap.size, 0, c.size))) := by
      intro j q hj
      unfold upd
      split
      · rename_i e; subst e; rw [R.none_next] at hj; cases hj
      · exact hj
    have hid : upd μ h.next (some (w.heap.size, 0, c.size)) h.next = some (w.heap.size, 0, c.size) := by simp [upd]
    obtain ⟨h6, h7⟩ := h5 _ hle h.next hid
    obtain ⟨R', S⟩ := R.alloc (w' := w.alloc (.cells c e)) R.none_next (Nat.le_refl _) (Nat.lt_succ_self _) (Nat.le_succ _) (by simp) (fun k hk => heap_alloc_old w _ k hk) (heap_alloc_new w _) h6 rfl rfl rfl (fun a _ => RowKit.frozen?_alloc_cells w _ _ a)
    refine K y _ _ ?_ ?_ (Nat.le_succ _) fun c hc => by cases hc; exact h7
    · rw [H.get_new, H.next_new]; exact R'
    · rw [H.get_new]; exact S
  | heap f =>
    rw [hc] at hr
    rw [sem (nd (fun y hy => by rw [hc] at hy; subst hy; simp))]
    have h0 : f h = .ok (v, h') := hr
    obtain ⟨x, w', μ', h1, h2, h3, h4⟩ := heap_spec hp R he hc h0
    have hn := heap_next hc h0
    rcases h1 with h1 | ⟨h1, rfl⟩
    · rw [h1]; exact K x w' μ' h2 h3 hn h4
    · rw [h1]; exact K undef w' μ' h2 h3 hn h4
  | call c =>
    rw [hc] at hr
    rw [sem (nd (fun y hy => by rw [hc] at hy; subst hy; simp))]
    have h0 : ((callO X pc r ea c h).bind fun x => .ok (some x.1, x.2)) = .ok (v, h') := hr
    obtain ⟨⟨b, h''⟩, h1, h2⟩ := Res.bind_eq_ok h0
    cases h2
    have hop : o.op = .call c := by
      cases ho : o.op with
      | call c' =>
        rw [ho] at hc
        have h0 : clsCall P pc ea c' = .call c := hc
        unfold clsCall at h0
        split at h0
        · unfold clsB at h0; split at h0 <;> cases h0
        · cases h0; rfl
      | convert s d x =>
        rw [ho] at hc
        have h0 : clsConv P pc ea s d x = .call c := hc
        unfold clsConv at h0
        rcases cond_eq h0 with ⟨_, h1⟩ | ⟨_, h1⟩ <;> cases h1
      | next it str => rw [ho] at hc; cases str <;> cases hc
      | _ => rw [ho] at hc; cases hc
    rw [hop] at he
    have := callO_spec rOK xOK (ty := o.type) R he h1
    have hex : (execOp a.eval o).run P w = (do let d ← resolve a.eval c o.type; invoke d.target d.args : Sem Next).run P w := by simp only [execOp, hop]
    rw [hex]
    exact upon_of this R fun x w' μ' k1 k2 k3 k4 => K x w' μ' k1 k2 k3 fun c hc => by cases hc; exact k4
  | no =>
    rw [hc] at hr
    cases hr

/-- One operation of a region in the text's order. -/
theorem EaR_of {tm : Tm} {a : Act} {op : Op} (hm : TmR ρ μ tm a.tmps) (hg : ∀ k, k < 64 → ∃ z, μ k = some (k, 0, z)) : EaR ρ μ op (evalA tm) a.eval := fun _ _ _ h => evalA_spec hm hg h

theorem opsA_spec (rOK : RecOK P ρ r) (xOK : HooksOK P ρ X pc) (hp : pc.holds ρ) {fr : Fr} {ro : Option Nat} {ops : Array Oper} {ms : List Nat} {tm' : Tm} {h' : H} {Q : Exit → Act → World → Prop} : ∀ {l : List Oper} {k : Nat} {μ : Mu} {a : Act} {w : World} {tm : Tm} {h : H},
    AR ρ μ fr tm ms a → Rel ρ μ h.get h.next w → ops.toList.drop k = l → opsA P X pc r fr ops.toList l tm h = .ok (tm', h') →
    (∀ μ' a' w', AR ρ μ' fr tm' ms a' → Rel ρ μ' h'.get h'.next w' → Stp μ h.get h.next w μ' h'.get w' → h.next ≤ h'.next → Q .normal a' w') →
    wpOpsIn (fen ro) 0 P ops Q (List.range' k l.length) a w := by
  intro l
  induction l with
  | nil =>
    intro k μ a w tm h A R hl hr K
    have h0 : Res.ok (tm, h) = .ok (tm', h') := hr
    cases h0
    exact K μ a w A R (Stp.refl _ _ _ _) (Nat.le_refl _)
  | cons o l ih =>
    intro k μ a w tm h A R hl hr K
    have h0 : ((stepO P X pc r fr ops.toList o tm h).bind fun x => opsA P X pc r fr ops.toList l x.1 x.2) = .ok (tm', h') := hr
    obtain ⟨⟨tm1, h1⟩, h2, h3⟩ := Res.bind_eq_ok h0
    have ho : ops[k]? = some o := by
      have := congrArg (·[0]?) hl
      simpa using this
    have hl' : ops.toList.drop (k + 1) = l := by rw [← List.drop_drop, hl]; rfl
    simp only [List.length_cons, List.range'_succ, wpOpsIn, ho]
    unfold stepO at h2
    obtain ⟨b, h4, h5⟩ := Res.bind_eq_ok h2
    rw [wantA_spec hp A.tmr h4]
    cases b with
    | false =>
      have h5' : ((putA fr.nt tm o.dst (some (.tup []))).bind fun tm => .ok (tm, h)) = .ok (tm1, h1) := h5
      obtain ⟨tm2, h6, h7⟩ := Res.bind_eq_ok h5'
      cases h7
      obtain ⟨p1, p2, p3, p4⟩ := putA_spec (x := undef) A.tmr A.size (fun b hb => by cases hb; exact VR_undef) h6
      simp only [Bool.false_eq_true, if_false]
      exact ⟨fun _ _ => trivial, ih ⟨p2, p1, by rw [p3]; exact A.dfr, by rw [p4]; exact A.mask⟩ R hl' h3 K⟩
    | true =>
      have h5' : ((opA P X pc r (evalA tm) h o.op).bind fun x => (putA fr.nt tm o.dst x.1).bind fun tm => .ok (tm, x.2)) = .ok (tm1, h1) := h5
      obtain ⟨⟨v, h6⟩, h7, h8⟩ := Res.bind_eq_ok h5'
      obtain ⟨tm2, h9, h10⟩ := Res.bind_eq_ok h8
      cases h10
      simp only [if_true]
      refine opA_spec rOK xOK hp R (EaR_of A.tmr R.glob) h7 ?_
      intro x w1 μ1 R1 S1 n1 hv
      obtain ⟨p1, p2, p3, p4⟩ := putA_spec (x := x) (TmR_mono S1.le A.tmr) A.size hv h9
      exact ih ⟨p2, p1, by rw [p3]; exact DR_mono S1.le A.dfr, by rw [p4]; exact A.mask⟩ R1 hl' h3 fun μ' a' w' A' R' S' n' => K μ' a' w' A' R' (Stp.trans S1 S' n1) (Nat.le_trans n1 n')

end
end Go.Ev
