/- The evaluator's plain operations are the model's, all together; no theorem of the program yet; no conditions. -/
import Derived.Test.YtlngklpiapbpmaaEvJ
set_option linter.unusedSimpArgs false
set_option linter.unusedVariables false
namespace Go.Ev
section
variable {ρ : Env} {μ : Mu} {P : Program} {pc : PC} {w : World}

theorem pure_call_spec (hp : pc.holds ρ) {o : Oper} {c : Call} (ho : o.op = .call c) {ea : Operand → Res AV} {rv : Operand → Value} {v : AV} (he : EaR ρ μ o.op ea rv) (h : clsCall P pc ea c = .pure (.ok v)) :
    ∃ y, (execOp rv o).run P w = .ok (.value y) w ∧ VR ρ μ v y := by
  rw [ho] at he
  unfold clsCall at h
  split at h
  · rename_i b hb
    have ha : ∀ {vs : List AV}, argsA ea c.args.toList = .ok vs → VRs ρ μ vs (c.args.map rv).toList := by
      intro vs h1
      rw [Array.toList_map]
      exact argsA_spec (fun x hx a h => he x (by simp only [Op.operands, Call.operands]; exact Array.mem_append.2 (.inr (by simpa using hx))) a h) h1
    unfold clsB at h
    split at h
    · injection h with h0
      obtain ⟨vs, h1, h2⟩ := Res.bind_eq_ok h0
      obtain ⟨y, h3, h4⟩ := aLen_spec (P := P) (w := w) (ty := o.type) (cs := c.args.map fun | .const _ => true | _ => false) hp (ha h1) h2
      exact ⟨y, by simp only [execOp, ho, resolve, hb, Sem.run_bind, Sem.run_pure, Result.andThen_ok, invoke]; exact h3, h4⟩
    · injection h with h0
      obtain ⟨vs, h1, h2⟩ := Res.bind_eq_ok h0
      obtain ⟨y, h3, h4⟩ := aLen_spec (P := P) (w := w) (ty := o.type) (cs := c.args.map fun | .const _ => true | _ => false) hp (ha h1) h2
      exact ⟨y, by simp only [execOp, ho, resolve, hb, Sem.run_bind, Sem.run_pure, Result.andThen_ok, invoke]; exact h3, h4⟩
    · injection h with h0
      obtain ⟨vs, h1, h2⟩ := Res.bind_eq_ok h0
      obtain ⟨y, h3, h4⟩ := aLen_spec (P := P) (w := w) (ty := o.type) (cs := c.args.map fun | .const _ => true | _ => false) hp (ha h1) h2
      exact ⟨y, by simp only [execOp, ho, resolve, hb, Sem.run_bind, Sem.run_pure, Result.andThen_ok, invoke]; exact h3, h4⟩
    · injection h with h0
      obtain ⟨vs, h1, h2⟩ := Res.bind_eq_ok h0
      obtain ⟨y, h3, h4⟩ := aLen_spec (P := P) (w := w) (ty := o.type) (cs := c.args.map fun | .const _ => true | _ => false) hp (ha h1) h2
      exact ⟨y, by simp only [execOp, ho, resolve, hb, Sem.run_bind, Sem.run_pure, Result.andThen_ok, invoke]; exact h3, h4⟩
    · cases h
    · cases h
    · cases h
  · cases h

theorem run_value {s : Sem Value} {y : Value} (h : s.run P w = .ok y w) : (do pure (.value (← s)) : Sem Next).run P w = .ok (.value y) w := by simp [h]

theorem pure_spec (hp : pc.holds ρ) {o : Oper} {ea : Operand → Res AV} {rv : Operand → Value} {v : AV} (he : EaR ρ μ o.op ea rv) (h : cls P pc ea o.op = .pure (.ok v)) :
    ∃ y, (execOp rv o).run P w = .ok (.value y) w ∧ VR ρ μ v y := by
  have lift : ∀ {s : Sem Value}, (∃ y, s.run P w = .ok y w ∧ VR ρ μ v y) → ∃ y, (do pure (.value (← s)) : Sem Next).run P w = .ok (.value y) w ∧ VR ρ μ v y :=
    fun ⟨y, h1, h2⟩ => ⟨y, run_value h1, h2⟩
  cases ho : o.op with
  | call c => rw [ho] at h; exact pure_call_spec hp ho he h
  | move x =>
    rw [ho] at h he
    have h0 : Cls.pure (ea x) = .pure (.ok v) := h
    injection h0 with h0
    exact ⟨rv x, by simp [execOp, ho], he x (by simp [Op.operands]) v h0⟩
  | «assign» x =>
    rw [ho] at h he
    have h0 : Cls.pure (ea x) = .pure (.ok v) := h
    injection h0 with h0
    exact ⟨rv x, by simp [execOp, ho], he x (by simp [Op.operands]) v h0⟩
  | pick c a b =>
    rw [ho] at h he
    have h0 : Cls.pure (aPick pc ea c a b) = .pure (.ok v) := h
    injection h0 with h0
    unfold aPick at h0
    obtain ⟨cv, h1, h2⟩ := Res.bind_eq_ok h0
    have h3 := he c (by simp [Op.operands]) cv h1
    split at h2
    · obtain ⟨t, h4, h5⟩ := Res.bind_eq_ok h2
      have h6 := decR_spec hp h4
      rw [VR, h6] at h3
      rcases cond_eq h5 with ⟨h7, h8⟩ | ⟨h7, h8⟩
      · subst h7; exact ⟨rv a, by simp [execOp, ho, h3, asBool], he a (by simp [Op.operands]) v h8⟩
      · subst h7; exact ⟨rv b, by simp [execOp, ho, h3, asBool], he b (by simp [Op.operands]) v h8⟩
    · cases h2
  | build t parts =>
    rw [ho] at h he
    have h0 : Cls.pure ((partsA ea parts.toList).bind (buildA P t)) = .pure (.ok v) := h
    injection h0 with h0
    obtain ⟨ps, h1, h2⟩ := Res.bind_eq_ok h0
    have h3 := partsA_spec (ρ := ρ) (μ := μ) (rv := rv) (fun x hx a h => he x.2 (by simp only [Op.operands, List.mem_toArray]; exact List.mem_map_of_mem hx) a h) h1
    have h4 := buildA_spec (P := P) (w := w) (ps := parts.map fun (i, x) => (i, rv x)) (by rw [Array.toList_map]; exact h3) h2
    simp only [execOp, ho]
    exact lift h4
  | nilCheck x =>
    rw [ho] at h he
    have h0 : Cls.pure ((ea x).bind aNilCheck) = .pure (.ok v) := h
    injection h0 with h0
    obtain ⟨a, h1, h2⟩ := Res.bind_eq_ok h0
    exact aNilCheck_spec ho (he x (by simp [Op.operands]) a h1) h2
  | binOp op t x y _ =>
    rw [ho] at h he
    have h0 : Cls.pure ((ea x).bind fun a => (ea y).bind fun b => binA P pc op t (isConstA x || isConstA y) a b) = .pure (.ok v) := h
    injection h0 with h0
    obtain ⟨a, h1, h2⟩ := Res.bind_eq_ok h0
    obtain ⟨b, h3, h4⟩ := Res.bind_eq_ok h2
    simp only [execOp, ho]
    exact lift (binA_spec hp (he x (by simp [Op.operands]) a h1) (he y (by simp [Op.operands]) b h3) h4)
  | unOp op _ x =>
    rw [ho] at h he
    have h0 : Cls.pure ((ea x).bind (unA pc op)) = .pure (.ok v) := h
    injection h0 with h0
    obtain ⟨a, h1, h2⟩ := Res.bind_eq_ok h0
    simp only [execOp, ho]
    exact lift (unA_spec hp (he x (by simp [Op.operands]) a h1) h2)
  | convert s d x =>
    rw [ho] at h he
    have h0 : clsConv P pc ea s d x = .pure (.ok v) := h
    unfold clsConv at h0
    rcases cond_eq h0 with ⟨_, h1⟩ | ⟨_, h1⟩
    · injection h1 with h1
      obtain ⟨a, h1, h2⟩ := Res.bind_eq_ok h1
      simp only [execOp, ho]
      exact lift (convA_spec hp (he x (by simp [Op.operands]) a h1) h2)
    · cases h1
  | makeInterface t x =>
    rw [ho] at h he
    have h0 : Cls.pure ((ea x).bind (aIface P t)) = .pure (.ok v) := h
    injection h0 with h0
    obtain ⟨a, h1, h2⟩ := Res.bind_eq_ok h0
    simp only [execOp, ho]
    exact lift (aIface_spec (he x (by simp [Op.operands]) a h1) h2)
  | makeFunc fn first captured =>
    rw [ho] at h he
    have h0 : Cls.pure (aFunc ea fn first captured) = .pure (.ok v) := h
    injection h0 with h0
    unfold aFunc at h0
    split at h0
    · obtain ⟨a, h1, h2⟩ := Res.bind_eq_ok h0
      obtain ⟨b, h3, h4⟩ := Res.bind_eq_ok h2
      cases h4
      have g1 := argsA_spec (ρ := ρ) (μ := μ) (rv := rv) (fun x hx a h => he x (by simp only [Op.operands]; exact Array.mem_append.2 (.inl (by simpa using hx))) a h) h1
      have g2 := argsA_spec (ρ := ρ) (μ := μ) (rv := rv) (fun x hx a h => he x (by simp only [Op.operands]; exact Array.mem_append.2 (.inr (by simpa using hx))) a h) h3
      rename_i f
      refine ⟨.func (.func f) (first.map rv) (captured.map rv), by simp [execOp, ho, Instr.makeFunc], ?_⟩
      rw [VR]
      exact ⟨_, _, _, rfl, rfl, by rw [Array.toList_map]; exact g1, by rw [Array.toList_map]; exact g2⟩
    · cases h0
  | slice t x lo hi mx =>
    rw [ho] at h he
    have h0 : Cls.pure ((ea x).bind fun v => (optA ea lo).bind fun lo => (optA ea hi).bind fun hi => (optA ea mx).bind fun mx => sliceA P pc t v lo hi mx) = .pure (.ok v) := h
    injection h0 with h0
    obtain ⟨a, h1, h2⟩ := Res.bind_eq_ok h0
    obtain ⟨lo', h3, h4⟩ := Res.bind_eq_ok h2
    obtain ⟨hi', h5, h6⟩ := Res.bind_eq_ok h4
    obtain ⟨mx', h7, h8⟩ := Res.bind_eq_ok h6
    have mem : ∀ {y : Operand}, y = x ∨ y ∈ lo.toArray ∨ y ∈ hi.toArray ∨ y ∈ mx.toArray → y ∈ (Op.slice t x lo hi mx).operands := by
      intro y hy
      simp only [Op.operands, Array.mem_append, List.mem_toArray, List.mem_singleton]
      rcases hy with hy | hy | hy | hy
      · exact .inl (.inl (.inl hy))
      · exact .inl (.inl (.inr hy))
      · exact .inl (.inr hy)
      · exact .inr hy
    have e1 := optA_spec (ρ := ρ) (μ := μ) (rv := rv) (fun y hy b h => he y (mem (.inr (.inl hy))) b h) h3
    have e2 := optA_spec (ρ := ρ) (μ := μ) (rv := rv) (fun y hy b h => he y (mem (.inr (.inr (.inl hy)))) b h) h5
    have e3 := optA_spec (ρ := ρ) (μ := μ) (rv := rv) (fun y hy b h => he y (mem (.inr (.inr (.inr hy)))) b h) h7
    simp only [execOp, ho]
    exact lift (sliceA_spec hp (he x (mem (.inl rfl)) a h1) e1 e2 e3 h8)
  | fieldAddr s x f =>
    rw [ho] at h he
    have h0 : Cls.pure ((ea x).bind (aFieldAddr P s f)) = .pure (.ok v) := h
    injection h0 with h0
    obtain ⟨a, h1, h2⟩ := Res.bind_eq_ok h0
    simp only [execOp, ho]
    exact lift (aFieldAddr_spec (he x (by simp [Op.operands]) a h1) h2)
  | field s x f =>
    rw [ho] at h he
    have h0 : Cls.pure ((ea x).bind (aField P s f)) = .pure (.ok v) := h
    injection h0 with h0
    obtain ⟨a, h1, h2⟩ := Res.bind_eq_ok h0
    simp only [execOp, ho]
    exact lift (aField_spec (he x (by simp [Op.operands]) a h1) h2)
  | indexAddr t x i =>
    rw [ho] at h he
    have h0 : Cls.pure ((ea x).bind fun v => (ea i).bind fun iv => (asI pc iv).bind fun e => aIndexAddr P pc t e.2 v) = .pure (.ok v) := h
    injection h0 with h0
    obtain ⟨a, h1, h2⟩ := Res.bind_eq_ok h0
    obtain ⟨iv, h3, h4⟩ := Res.bind_eq_ok h2
    obtain ⟨⟨k, e⟩, h5, h6⟩ := Res.bind_eq_ok h4
    simp only [execOp, ho]
    rw [asI_spec hp (he i (by simp [Op.operands]) iv h3) h5]
    exact lift (aIndexAddr_spec hp (he x (by simp [Op.operands]) a h1) h6)
  | index t x i =>
    rw [ho] at h he
    have h0 : Cls.pure ((ea x).bind fun v => (ea i).bind fun iv => (asI pc iv).bind fun e => aIndex P pc t e.2 v) = .pure (.ok v) := h
    injection h0 with h0
    obtain ⟨a, h1, h2⟩ := Res.bind_eq_ok h0
    obtain ⟨iv, h3, h4⟩ := Res.bind_eq_ok h2
    obtain ⟨⟨k, e⟩, h5, h6⟩ := Res.bind_eq_ok h4
    simp only [execOp, ho]
    rw [asI_spec hp (he i (by simp [Op.operands]) iv h3) h5]
    exact lift (aIndex_spec hp (he x (by simp [Op.operands]) a h1) h6)
  | extract x i =>
    rw [ho] at h he
    have h0 : Cls.pure ((ea x).bind (aExtract i)) = .pure (.ok v) := h
    injection h0 with h0
    obtain ⟨a, h1, h2⟩ := Res.bind_eq_ok h0
    simp only [execOp, ho]
    exact lift (aExtract_spec (he x (by simp [Op.operands]) a h1) h2)
  | next it str => rw [ho] at h; cases str <;> cases h
  | _ => rw [ho] at h; cases h

end
end Go.Ev
