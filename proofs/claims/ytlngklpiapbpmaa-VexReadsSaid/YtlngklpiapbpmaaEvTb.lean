/- Regions whose order is open, the evaluator's own order; no theorem of the program yet; no conditions. -/
import Derived.Test.YtlngklpiapbpmaaEvT
set_option linter.unusedSimpArgs false
set_option linter.unusedVariables false
namespace Go.Ev
section
variable (P : Program) (pc : PC) (X : Hooks) (r : Rec) (fr : Fr) (ops : Array Oper) (bs : List Nat) (base : Nat)

abbrev Snaps := List (Nat × H)

def orB (a b : Option Blk) : Option Blk := match a with
  | some x => some x
  | none => b

/-- What one operation of the evaluator's order does. -/
def Out (i : Nat) (o : Oper) (tm : Tm) (h : H) (sn : Snaps) (v : Option AV) (bk : Option Blk) (tm1 : Tm) (h1 : H) (sn1 : Snaps) : Prop :=
  putA fr.nt tm o.dst v = .ok tm1 ∧ (∀ x ∈ sn, x ∈ sn1) ∧ ((kindO P o.op).isAnchor = true → (i, h) ∈ sn1) ∧
  ((wantA pc ops.toList tm o = .ok false ∧ v = some (.tup []) ∧ bk = none ∧ h1 = h) ∨
   (wantA pc ops.toList tm o = .ok true ∧
     ((∃ a, cls P pc (evalA tm) o.op = .pure (.ok a) ∧ v = some a ∧ bk = none ∧ h1 = h) ∨
      (∃ f a, cls P pc (evalA tm) o.op = .load f ∧ f h = .ok a ∧ v = some a ∧ bk = none ∧ h1 = h ∧ addrBelow (evalA tm) base o.op = true ∧ sameAhead P pc (evalA tm) o.op a ((nth bs i).getD 0) sn = true) ∨
      (∃ b mk, cls P pc (evalA tm) o.op = .alloc (.ok (b, mk)) ∧ v = some (mk (base + i)) ∧ bk = some b ∧ h1 = h.set (base + i) b) ∨
      ((kindO P o.op).isAnchor = true ∧ opA P X pc r (evalA tm) h o.op = .ok (v, h1) ∧ bk = none))))

theorem stepD_out {i : Nat} {o : Oper} {tm tm1 : Tm} {h h1 : H} {sn sn1 : Snaps} (hr : stepD P X pc r fr ops.toList base i ((nth bs i).getD 0) o tm h sn = .ok (tm1, h1, sn1)) :
    ∃ v bk, Out P pc X r fr ops bs base i o tm h sn v bk tm1 h1 sn1 := by
  unfold stepD at hr
  obtain ⟨wb, hw, hr⟩ := Res.bind_eq_ok hr
  rcases cond_eq hr with ⟨h2, hr⟩ | ⟨h2, hr⟩
  · subst h2
    have anch : ∀ c, cls P pc (evalA tm) o.op = c → (kindC c).isAnchor = true → ((opC X pc r (evalA tm) h c).bind fun x => (putA fr.nt tm o.dst x.1).bind fun tm => .ok (tm, x.2, (i, h) :: sn)) = .ok (tm1, h1, sn1) →
        ∃ v bk, Out P pc X r fr ops bs base i o tm h sn v bk tm1 h1 sn1 := by
      intro c hc hk hr
      obtain ⟨⟨v, h3⟩, h4, hr⟩ := Res.bind_eq_ok hr
      obtain ⟨tm2, h5, hr⟩ := Res.bind_eq_ok hr
      cases hr
      refine ⟨v, none, h5, fun x hx => List.mem_cons_of_mem _ hx, fun _ => List.mem_cons_self, .inr ⟨hw, .inr (.inr (.inr ⟨?_, ?_, rfl⟩))⟩⟩
      · rw [← kind_cls (pc := pc) (ea := evalA tm), hc]; exact hk
      · unfold opA; rw [hc]; exact h4
    have notA : ∀ c, cls P pc (evalA tm) o.op = c → (kindC c).isAnchor = false → (kindO P o.op).isAnchor = true → False := by
      intro c hc hk hk2
      rw [← kind_cls (pc := pc) (ea := evalA tm), hc, hk] at hk2
      cases hk2
    split at hr
    · rename_i x hc
      obtain ⟨a, rfl, hr⟩ := Res.bind_eq_ok hr
      obtain ⟨tm2, h5, hr⟩ := Res.bind_eq_ok hr
      cases hr
      exact ⟨some a, none, h5, fun x hx => hx, fun h => (notA _ hc rfl h).elim, .inr ⟨hw, .inl ⟨a, hc, rfl, rfl, rfl⟩⟩⟩
    · rename_i f hc
      obtain ⟨a, h3, hr⟩ := Res.bind_eq_ok hr
      rcases cond_eq hr with ⟨h4, hr⟩ | ⟨_, hr⟩
      · obtain ⟨tm2, h5, hr⟩ := Res.bind_eq_ok hr
        cases hr
        simp only [Bool.and_eq_true] at h4
        exact ⟨some a, none, h5, fun x hx => hx, fun h => (notA _ hc rfl h).elim, .inr ⟨hw, .inr (.inl ⟨f, a, hc, h3, rfl, rfl, rfl, h4.1, h4.2⟩)⟩⟩
      · cases hr
    · rename_i x hc
      obtain ⟨⟨b, mk⟩, rfl, hr⟩ := Res.bind_eq_ok hr
      obtain ⟨tm2, h5, hr⟩ := Res.bind_eq_ok hr
      cases hr
      exact ⟨some (mk (base + i)), some b, h5, fun x hx => hx, fun h => (notA _ hc rfl h).elim, .inr ⟨hw, .inr (.inr (.inl ⟨b, mk, hc, rfl, rfl, rfl⟩))⟩⟩
    · rename_i n1 n2 n3
      refine anch _ rfl ?_ hr
      cases hc : cls P pc (evalA tm) o.op with
      | pure v => exact (n1 _ hc).elim
      | load f => exact (n2 _ hc).elim
      | alloc x => exact (n3 _ hc).elim
      | heap f => rfl
      | call c => rfl
      | no => rfl
  · subst h2
    obtain ⟨tm2, h5, hr⟩ := Res.bind_eq_ok hr
    cases hr
    refine ⟨some (.tup []), none, h5, ?_, ?_, .inl ⟨hw, rfl, rfl, rfl⟩⟩
    · intro x hx
      split
      · exact List.mem_cons_of_mem _ hx
      · exact hx
    · intro hk
      split
      · exact List.mem_cons_self
      · rename_i hne
        cases hkk : kindO P o.op <;> rw [hkk] at hk <;> first | (cases hk; done) | exact (hne hkk).elim

abbrev Tr := List (Nat × Option AV × Option Blk)

/-- The evaluator's order, told operation by operation. -/
def Along : Tr → Tm → H → Snaps → Nat → Tm → H → Snaps → Nat → Prop
  | [], tm, h, sn, done, tm', h', sn', done' => tm' = tm ∧ h' = h ∧ sn' = sn ∧ done' = done
  | (i, v, bk) :: l, tm, h, sn, done, tm', h', sn', done' => ∃ o tm1 h1 sn1, ops[i]? = some o ∧ bit done i = false ∧ (∀ k, bit ((nth bs i).getD 0) k = true → bit done k = true) ∧ ((kindO P o.op).isAnchor = true → done = (nth bs i).getD 0) ∧
      Out P pc X r fr ops bs base i o tm h sn v bk tm1 h1 sn1 ∧ Along l tm1 h1 sn1 (Nat.lor done (Nat.shiftLeft 1 i)) tm' h' sn' done'

theorem opsD_along {full : Nat} : ∀ {l : List Nat} {tm tm' : Tm} {h h' : H} {sn : Snaps} {done : Nat}, opsD P X pc r fr ops.toList bs base full l tm h sn done = .ok (tm', h') →
    ∃ T sn', Along P pc X r fr ops bs base T tm h sn done tm' h' sn' full := by
  intro l
  induction l with
  | nil =>
    intro tm tm' h h' sn done hr
    simp only [opsD] at hr
    rcases cond_eq hr with ⟨h1, hr⟩ | ⟨_, hr⟩
    · cases hr
      exact ⟨[], sn, rfl, rfl, rfl, (beq_eq h1).symm⟩
    · cases hr
  | cons i l ih =>
    intro tm tm' h h' sn done hr
    simp only [opsD] at hr
    split at hr
    · cases hr
    · rename_i o ho
      rw [nth_eq, Array.getElem?_toList] at ho
      rcases cond_eq hr with ⟨_, hr⟩ | ⟨h1, hr⟩
      · cases hr
      · rcases cond_eq hr with ⟨h2, hr⟩ | ⟨_, hr⟩
        · obtain ⟨⟨tm1, h3, sn1⟩, h4, h5⟩ := Res.bind_eq_ok hr
          obtain ⟨v, bk, h6⟩ := stepD_out P pc X r fr ops bs base h4
          obtain ⟨T, sn', h7⟩ := ih h5
          simp only [Bool.and_eq_true, Bool.or_eq_true, Bool.not_eq_true'] at h2
          refine ⟨(i, v, bk) :: T, sn', o, tm1, h3, sn1, ho, h1, fun k hk => bit_land h2.1 hk, fun hk => ?_, h6, h7⟩
          rcases h2.2 with h8 | h8
          · rw [h8] at hk; cases hk
          · exact beq_eq h8
        · cases hr

variable {P pc X r fr ops bs base}
theorem along_append : ∀ {T1 T2 : Tr} {tm tm' : Tm} {h h' : H} {sn sn' : Snaps} {done done' : Nat}, Along P pc X r fr ops bs base (T1 ++ T2) tm h sn done tm' h' sn' done' →
    ∃ tm1 h1 sn1 done1, Along P pc X r fr ops bs base T1 tm h sn done tm1 h1 sn1 done1 ∧ Along P pc X r fr ops bs base T2 tm1 h1 sn1 done1 tm' h' sn' done' := by
  intro T1
  induction T1 with
  | nil => intro T2 tm tm' h h' sn sn' done done' ha; exact ⟨tm, h, sn, done, ⟨rfl, rfl, rfl, rfl⟩, ha⟩
  | cons x T1 ih =>
    obtain ⟨i, v, bk⟩ := x
    intro T2 tm tm' h h' sn sn' done done' ha
    obtain ⟨o, tm1, h1, sn1, a1, a2, a3, a4, a5, a6⟩ := ha
    obtain ⟨tm2, h2, sn2, done2, b1, b2⟩ := ih a6
    exact ⟨tm2, h2, sn2, done2, ⟨o, tm1, h1, sn1, a1, a2, a3, a4, a5, b1⟩, b2⟩

theorem along_done : ∀ {T : Tr} {tm tm' : Tm} {h h' : H} {sn sn' : Snaps} {done done' : Nat}, Along P pc X r fr ops bs base T tm h sn done tm' h' sn' done' →
    (∀ k, bit done' k = true ↔ bit done k = true ∨ k ∈ T.map (·.1)) ∧ (∀ x ∈ T, bit done x.1 = false) ∧ (T.map (·.1)).Nodup ∧ (∀ x ∈ sn, x ∈ sn') := by
  intro T
  induction T with
  | nil => rintro tm tm' h h' sn sn' done done' ⟨_, _, rfl, rfl⟩; simp
  | cons x T ih =>
    obtain ⟨i, v, bk⟩ := x
    intro tm tm' h h' sn sn' done done' ha
    obtain ⟨o, tm1, h1, sn1, a1, a2, a3, a4, a5, a6⟩ := ha
    obtain ⟨b1, b2, b3, b4⟩ := ih a6
    have hn : i ∉ T.map (·.1) := by
      intro hm
      obtain ⟨x, hx, e⟩ := List.mem_map.1 hm
      have := b2 x hx
      rw [bit_lor, bit_one, e] at this
      simp at this
    refine ⟨?_, ?_, ?_, fun x hx => b4 x (a5.2.1 x hx)⟩
    · intro k
      rw [b1 k, bit_lor, bit_one]
      simp only [Bool.or_eq_true, decide_eq_true_eq, List.map_cons, List.mem_cons]
      constructor
      · rintro ((h | h) | h)
        · exact .inl h
        · exact .inr (.inl h)
        · exact .inr (.inr h)
      · rintro (h | h | h)
        · exact .inl (.inl h)
        · exact .inl (.inr h)
        · exact .inr h
    · intro x hx
      rcases List.mem_cons.1 hx with rfl | hx
      · exact a2
      · have := b2 x hx
        rw [bit_lor] at this
        simp only [Bool.or_eq_false_iff] at this
        exact this.1
    · simp only [List.map_cons, List.nodup_cons]
      exact ⟨hn, b3⟩

theorem lowset {h h1 : H} {o : Oper} {i : Nat} {tm tm1 : Tm} {sn sn1 : Snaps} {v : Option AV} {bk : Option Blk} (ho : Out P pc X r fr ops bs base i o tm h sn v bk tm1 h1 sn1) (hk : (kindO P o.op).isAnchor = false) :
    h1.next = h.next ∧ ∀ id, h1.get id = (if id = base + i then orB bk (h.get id) else h.get id) := by
  have same : ∀ {bk : Option Blk} {h : H} (id : Nat), bk = none → h.get id = (if id = base + i then orB bk (h.get id) else h.get id) := by
    rintro _ h id rfl
    split <;> rfl
  rcases ho.2.2.2 with ⟨_, _, hb, rfl⟩ | ⟨_, ⟨a, _, _, hb, rfl⟩ | ⟨f, a, _, _, _, hb, rfl, _⟩ | ⟨b, mk, _, _, rfl, rfl⟩ | ⟨hk2, _⟩⟩
  · exact ⟨rfl, fun id => same id hb⟩
  · exact ⟨rfl, fun id => same id hb⟩
  · exact ⟨rfl, fun id => same id hb⟩
  · refine ⟨rfl, fun id => ?_⟩
    rw [H.get_set]; rfl
  · rw [hk] at hk2; cases hk2

/-- No anchors: the heap gets the blocks that are made. -/
theorem along_heap {blk : Nat → Option Blk} : ∀ {T : Tr} {tm tm' : Tm} {h h' : H} {sn sn' : Snaps} {done done' : Nat}, Along P pc X r fr ops bs base T tm h sn done tm' h' sn' done' →
    (∀ x ∈ T, ∀ o, ops[x.1]? = some o → (kindO P o.op).isAnchor = false) → (∀ x ∈ T, blk x.1 = x.2.2) → h'.next = h.next ∧
    ∀ id, h'.get id = (if base ≤ id ∧ id - base ∈ T.map (·.1) then orB (blk (id - base)) (h.get id) else h.get id) := by
  intro T
  induction T with
  | nil => rintro tm tm' h h' sn sn' done done' ⟨_, rfl, _, _⟩ _ _; exact ⟨rfl, fun id => by simp⟩
  | cons x T ih =>
    obtain ⟨i, v, bk⟩ := x
    intro tm tm' h h' sn sn' done done' ha hk hb
    have hnd := (along_done ha).2.2.1
    obtain ⟨o, tm1, h1, sn1, a1, a2, a3, a4, a5, a6⟩ := ha
    obtain ⟨n1, g1⟩ := lowset a5 (hk _ List.mem_cons_self o a1)
    obtain ⟨n2, g2⟩ := ih a6 (fun x hx => hk x (List.mem_cons_of_mem _ hx)) (fun x hx => hb x (List.mem_cons_of_mem _ hx))
    refine ⟨n2.trans n1, fun id => ?_⟩
    have hbi : blk i = bk := hb _ List.mem_cons_self
    simp only [List.map_cons, List.nodup_cons] at hnd
    rw [g2 id, g1 id]
    by_cases e : id = base + i
    · subst e
      have e1 : base + i - base = i := by omega
      rw [e1, if_neg (fun h => hnd.1 h.2), if_pos rfl, if_pos ⟨by omega, by simp⟩, hbi]
    · rw [if_neg e]
      by_cases h2 : base ≤ id ∧ id - base ∈ T.map (·.1)
      · rw [if_pos h2, if_pos ⟨h2.1, by simp only [List.map_cons, List.mem_cons]; exact .inr h2.2⟩]
      · rw [if_neg h2, if_neg]
        rintro ⟨h3, h4⟩
        simp only [List.map_cons, List.mem_cons] at h4
        rcases h4 with h4 | h4
        · exact e (by omega)
        · exact h2 ⟨h3, h4⟩

/-- What lies below base is told by the heap here, or ahead of the first anchor. -/
theorem along_low : ∀ {T : Tr} {tm tm' : Tm} {h h' : H} {sn sn' : Snaps} {done done' : Nat}, Along P pc X r fr ops bs base T tm h sn done tm' h' sn' done' →
    (∀ id, id < base → h'.get id = h.get id) ∨ (∃ x ∈ T, ∃ o, ops[x.1]? = some o ∧ (kindO P o.op).isAnchor = true ∧ ∃ ha, (x.1, ha) ∈ sn' ∧ ∀ id, id < base → ha.get id = h.get id) := by
  intro T
  induction T with
  | nil => rintro tm tm' h h' sn sn' done done' ⟨_, rfl, _, _⟩; exact .inl fun _ _ => rfl
  | cons x T ih =>
    obtain ⟨i, v, bk⟩ := x
    intro tm tm' h h' sn sn' done done' ha
    obtain ⟨o, tm1, h1, sn1, a1, a2, a3, a4, a5, a6⟩ := ha
    cases hk : (kindO P o.op).isAnchor with
    | true => exact .inr ⟨_, List.mem_cons_self, o, a1, hk, h, (along_done a6).2.2.2 _ (a5.2.2.1 hk), fun _ _ => rfl⟩
    | false =>
      have g1 := (lowset a5 hk).2
      have low : ∀ id, id < base → h1.get id = h.get id := fun id hid => by rw [g1 id, if_neg (by omega)]
      rcases ih a6 with h2 | ⟨x, hx, o', b1, b2, ha', b3, b4⟩
      · exact .inl fun id hid => (h2 id hid).trans (low id hid)
      · exact .inr ⟨x, List.mem_cons_of_mem _ hx, o', b1, b2, ha', b3, fun id hid => (b4 id hid).trans (low id hid)⟩

end
end Go.Ev
