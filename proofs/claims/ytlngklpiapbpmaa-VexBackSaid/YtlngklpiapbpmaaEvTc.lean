/- Regions whose order is open, any order; no theorem of the program yet; no conditions. -/
import Derived.Test.YtlngklpiapbpmaaEvT
set_option linter.unusedSimpArgs false
set_option linter.unusedVariables false
namespace Go.Ev

/-! ### Values told equal are equal -/
theorem sesBeq_eq : ∀ {a b : List SE}, sesBeq a b = true → a = b := by
  intro a
  induction a with
  | nil => intro b h; cases b <;> first | rfl | cases h
  | cons x a ih =>
    intro b h
    cases b with
    | nil => cases h
    | cons y b =>
      simp only [sesBeq, Bool.and_eq_true] at h
      rw [SE.beq_eq h.1, ih h.2]

mutual
theorem AV.beq_eq : ∀ {a b : AV}, a.beq b = true → a = b
  | .int k a, b, h => by cases b <;> simp only [AV.beq, Bool.and_eq_true] at h <;> first | (rw [ikBeq_eq h.1, SE.beq_eq h.2]; done) | cases h
  | .bool a, b, h => by cases b <;> simp only [AV.beq] at h <;> first | (rw [SB.beq_eq h]; done) | cases h
  | .str n a, b, h => by cases b <;> simp only [AV.beq, Bool.and_eq_true] at h <;> first | (rw [Ev.beq_eq h.1, sesBeq_eq h.2]; done) | cases h
  | .nilp, b, h => by cases b <;> simp only [AV.beq] at h <;> first | rfl | cases h
  | .nils, b, h => by cases b <;> simp only [AV.beq] at h <;> first | rfl | cases h
  | .emp, b, h => by cases b <;> simp only [AV.beq] at h <;> first | rfl | cases h
  | .slv .., b, h => by cases b <;> simp only [AV.beq] at h <;> cases h
  | .nilm, b, h => by cases b <;> simp only [AV.beq] at h <;> first | rfl | cases h
  | .nilf, b, h => by cases b <;> simp only [AV.beq] at h <;> first | rfl | cases h
  | .nili, b, h => by cases b <;> simp only [AV.beq] at h <;> first | rfl | cases h
  | .ptr a b, c, h => by cases c <;> simp only [AV.beq, Bool.and_eq_true] at h <;> first | (rw [Ev.beq_eq h.1, Ev.beq_eq h.2]; done) | cases h
  | .slc a b c d e f, v, h => by
    cases v <;> simp only [AV.beq, Bool.and_eq_true] at h <;> first
      | (obtain ⟨⟨⟨⟨⟨h1, h2⟩, h3⟩, h4⟩, h5⟩, h6⟩ := h; rw [Ev.beq_eq h1, Ev.beq_eq h2, Ev.beq_eq h3, eq_of_beq h4, Ev.beq_eq h5, Ev.beq_eq h6]; done)
      | cases h
  | .map a, b, h => by cases b <;> simp only [AV.beq] at h <;> first | (rw [Ev.beq_eq h]; done) | cases h
  | .func fn a b, v, h => by
    cases fn with
    | func f =>
      cases v with
      | func g c d =>
        cases g with
        | func g =>
          simp only [AV.beq, Bool.and_eq_true] at h
          rw [Ev.beq_eq h.1.1, avsBeq_eq h.1.2, avsBeq_eq h.2]
        | _ => simp [AV.beq] at h
      | _ => simp [AV.beq] at h
    | yield f =>
      cases v with
      | func g c d =>
        cases g with
        | yield g =>
          simp only [AV.beq, Bool.and_eq_true] at h
          rw [Ev.beq_eq h.1.1, avsBeq_eq h.1.2, avsBeq_eq h.2]
        | _ => simp [AV.beq] at h
      | _ => simp [AV.beq] at h
    | _ => simp [AV.beq] at h
  | .iface t v, b, h => by cases b <;> simp only [AV.beq, Bool.and_eq_true] at h <;> first | (rw [Ev.beq_eq h.1, AV.beq_eq h.2]; done) | cases h
  | .agg a, b, h => by cases b <;> simp only [AV.beq] at h <;> first | (rw [avsBeq_eq h]; done) | cases h
  | .tup a, b, h => by cases b <;> simp only [AV.beq] at h <;> first | (rw [avsBeq_eq h]; done) | cases h
theorem avsBeq_eq : ∀ {a b : List AV}, avsBeq a b = true → a = b
  | [], b, h => by cases b <;> simp only [avsBeq] at h <;> first | rfl | cases h
  | x :: a, b, h => by
    cases b with
    | nil => simp only [avsBeq] at h; cases h
    | cons y b =>
      simp only [avsBeq, Bool.and_eq_true] at h
      rw [AV.beq_eq h.1, avsBeq_eq h.2]
end

section
variable {ρ : Env} {μ : Mu} {P : Program} {pc : PC} {w : World} {X : Hooks} {r : Rec}

/-- The temporaries that an operation looks at are told. -/
def LkR (ρ : Env) (μ : Mu) (ops : Array Oper) (o : Oper) (tm : Tm) (tmps : Array Value) : Prop := ∀ t ∈ looks ops.toList o, ∀ v, tm.get t = some v → ∃ x, tmps[t]? = some x ∧ VR ρ μ v x

theorem LkR_ea {ops : Array Oper} {o : Oper} {tm : Tm} {a : Act} (hm : LkR ρ μ ops o tm a.tmps) (hg : ∀ k, k < 64 → ∃ z, μ k = some (k, 0, z)) : EaR ρ μ o.op (evalA tm) a.eval := by
  intro x hx v h
  cases x with
  | tmp t =>
    obtain ⟨x, h1, h2⟩ := hm t (by
      unfold looks
      exact List.mem_append_left _ (List.mem_filterMap.2 ⟨.tmp t, by simpa using hx, rfl⟩)) v (Res.ofO_eq_ok h)
    simp only [Act.eval, Array.getD_eq_getD_getElem?, h1, Option.getD_some]
    exact h2
  | const c => exact ofValue_spec (Res.ofO_eq_ok h)
  | global g =>
    have h0 : (Bool.rec (.fail "a global") (.ok (.ptr g 0)) (Nat.blt g 64) : Res AV) = .ok v := h
    cases hb : Nat.blt g 64 with
    | true =>
      rw [hb] at h0
      injection h0 with h0
      subst h0
      obtain ⟨z, hz⟩ := hg g (by simpa using hb)
      rw [VR]
      exact ⟨_, hz, rfl⟩
    | false => rw [hb] at h0; cases h0
  | func f =>
    have h0 : Res.ok (AV.func (.func f) [] []) = .ok v := h
    injection h0 with h0
    subst h0
    rw [VR]
    exact ⟨_, _, _, rfl, rfl, VRs_nil.2 rfl, VRs_nil.2 rfl⟩

theorem LkR_want (hp : pc.holds ρ) {ops : Array Oper} {tm : Tm} {tmps : Array Value} {o : Oper} {b : Bool} (hm : LkR ρ μ ops o tm tmps) (h : wantA pc ops.toList tm o = .ok b) : Region.wanted o (yielded ops tmps) = b := by
  cases hg : o.guard with
  | none =>
    have h0 : (Option.rec (motive := fun _ => PC → List Oper → Tm → Res Bool) wNone wGuard o.guard pc ops.toList tm) = .ok b := h
    rw [hg] at h0
    have h1 : Res.ok true = .ok b := h0
    cases h1
    simp [Region.wanted, hg]
  | some g =>
    have h0 : (Option.rec (motive := fun _ => PC → List Oper → Tm → Res Bool) wNone wGuard o.guard pc ops.toList tm) = .ok b := h
    rw [hg] at h0
    have h1 : wGuard g pc ops.toList tm = .ok b := h0
    unfold wGuard at h1
    split at h1
    · cases h1
    · rename_i q hq
      split at h1
      · cases h1
      · rename_i d hd
        split at h1
        · rename_i c hc
          obtain ⟨t, h2, h3⟩ := Res.bind_eq_ok h1
          cases h3
          obtain ⟨gi, gb⟩ := g
          simp only at hq
          obtain ⟨x, h4, h5⟩ := hm d (by
            unfold looks
            refine List.mem_append_right _ ?_
            rw [hg]
            simp only [hq, hd]
            simp) _ hc
          rw [VR, decR_spec hp h2] at h5
          subst h5
          rw [nth_eq, Array.getElem?_toList] at hq
          simp [Region.wanted, hg, yielded, hq, hd, h4]
        · rename_i hc
          cases h1
          obtain ⟨gi, gb⟩ := g
          simp only at hq
          obtain ⟨x, h4, h5⟩ := hm d (by
            unfold looks
            refine List.mem_append_right _ ?_
            rw [hg]
            simp only [hq, hd]
            simp) _ hc
          rw [VR] at h5
          obtain ⟨ys, rfl, _⟩ := h5
          rw [nth_eq, Array.getElem?_toList] at hq
          simp [Region.wanted, hg, yielded, hq, hd, h4]
        · cases h1

theorem looks_plain {ops : Array Oper} {o : Oper} {t : Nat} (h : has (looks ops.toList o) t = false) : t ∉ looks ops.toList o := has_false h

/-- Of temporaries: as the last writer in D has left them. -/
noncomputable def tmD (ops : Array Oper) (val : Nat → Option AV) (tm0 : Tm) (D : Nat → Bool) (t : Nat) : Option AV :=
  match lw ops D t ops.size with
  | some j => val j
  | none => tm0.get t

variable {ops : Array Oper} {bs : List Nat} {val : Nat → Option AV} {tm0 : Tm}

theorem dst_of {i : Nat} {o : Oper} (ho : ops[i]? = some o) : dstOf ops i = o.dst := by simp [dstOf, ho]

/-- Writers of a temporary that i looks at: those of D, if i is next. -/
theorem read_same (F : Form ops bs) {i : Nat} {o : Oper} (ho : ops[i]? = some o) {D : Nat → Bool} (hD : D i = false) (hB : ∀ k, bit ((nth bs i).getD 0) k = true → D k = true)
    (hcl : ∀ j k, j < ops.size → D j = true → bit ((nth bs j).getD 0) k = true → D k = true) {t : Nat} (ht : t ∈ looks ops.toList o) :
    lw ops D t ops.size = lw ops (fun k => bit ((nth bs i).getD 0) k) t ops.size := by
  refine lw_congr fun j hj hd => ?_
  have hjo : ops[j]? = some ops[j] := Array.getElem?_eq_getElem hj
  have hd' : ops[j].dst = some t := by rw [← dst_of hjo]; exact hd
  cases hb : bit ((nth bs i).getD 0) j with
  | true => exact hB j hb
  | false =>
    cases hDj : D j with
    | false => rfl
    | true =>
      exfalso
      have hi : i < ops.size := (Array.getElem?_eq_some_iff.1 ho).1
      rcases Nat.lt_trichotomy j i with h | h | h
      · exact looks_plain ((F.apart j i _ o hjo ho h hb).1 t hd').1 ht
      · subst h; rw [hD] at hDj; cases hDj
      · cases hb2 : bit ((nth bs j).getD 0) i with
        | true => have := hcl j i hj hDj hb2; rw [hD] at this; cases this
        | false => exact looks_plain ((F.apart i j o _ ho hjo h hb2).2 t hd') ht

theorem tmD_put (F : Form ops bs) {i : Nat} {o : Oper} (ho : ops[i]? = some o) {D E : Nat → Bool} (hE : ∀ j, E j = (D j || decide (j = i))) (hD : D i = false)
    (hcl : ∀ j k, j < ops.size → D j = true → bit ((nth bs j).getD 0) k = true → D k = true) (t : Nat) :
    tmD ops val tm0 E t = if o.dst = some t then val i else tmD ops val tm0 D t := by
  have hi : i < ops.size := (Array.getElem?_eq_some_iff.1 ho).1
  have := lw_add (ops := ops) (t := t) hE hD (n := ops.size) (by
    intro j hij hj hDj d hd hd2
    have hjo : ops[j]? = some ops[j] := Array.getElem?_eq_getElem hj
    rw [dst_of ho] at hd
    rw [dst_of hjo] at hd2
    cases hb2 : bit ((nth bs j).getD 0) i with
    | true => have := hcl j i hj hDj hb2; rw [hD] at this; cases this
    | false => exact ((F.apart i j o _ ho hjo hij hb2).1 d hd).2 hd2)
  unfold tmD
  rw [this, dst_of ho]
  by_cases h : o.dst = some t
  · rw [if_pos ⟨hi, h⟩, if_pos h]
  · rw [if_neg (fun hh => h hh.2), if_neg h]

theorem putA_get {nt : Nat} {tm tm1 : Tm} {dst : Option Nat} {v : Option AV} (h : putA nt tm dst v = .ok tm1) (t : Nat) : tm1.get t = (if dst = some t then v else tm.get t) ∧ tm1.mask = tm.mask := by
  cases dst with
  | none => have h0 : Res.ok tm = .ok tm1 := h; cases h0; simp
  | some d =>
    have h0 : (Bool.rec (.fail "a temporary beyond the frame's") (.ok (tm.put d v)) (Nat.blt d nt) : Res Tm) = .ok tm1 := h
    cases hb : Nat.blt d nt with
    | false => rw [hb] at h0; cases h0
    | true =>
      rw [hb] at h0
      injection h0 with h0
      subst h0
      refine ⟨?_, by unfold Tm.put; cases bit tm.mask d <;> rfl⟩
      rw [Tm.get_put]
      by_cases e : t = d
      · subst e; simp
      · rw [if_neg e, if_neg (fun h => e (Option.some.inj h).symm)]

theorem putA_ok {nt : Nat} {tm tm1 : Tm} {dst : Option Nat} {v : Option AV} (h : putA nt tm dst v = .ok tm1) : ∀ d, dst = some d → d < nt := by
  rintro d rfl
  have h0 : (Bool.rec (.fail "a temporary beyond the frame's") (.ok (tm.put d v)) (Nat.blt d nt) : Res Tm) = .ok tm1 := h
  cases hb : Nat.blt d nt with
  | false => rw [hb] at h0; cases h0
  | true => simpa using hb

/-- The evaluator's own temporaries. -/
theorem along_tm (F : Form ops bs) {fr : Fr} {base : Nat} : ∀ {T : Tr} {tm tm' : Tm} {h h' : H} {sn sn' : Snaps} {done done' : Nat}, Along P pc X r fr ops bs base T tm h sn done tm' h' sn' done' → (∀ x ∈ T, val x.1 = x.2.1) →
    (∀ t, tm.get t = tmD ops val tm0 (bit done) t) → (∀ j k, bit done j = true → bit ((nth bs j).getD 0) k = true → bit done k = true) →
    (∀ t, tm'.get t = tmD ops val tm0 (bit done') t) ∧ (∀ j k, bit done' j = true → bit ((nth bs j).getD 0) k = true → bit done' k = true) ∧ tm'.mask = tm.mask := by
  intro T
  induction T with
  | nil => rintro tm tm' h h' sn sn' done done' ⟨rfl, _, _, rfl⟩ _ h1 h2; exact ⟨h1, h2, rfl⟩
  | cons x T ih =>
    obtain ⟨i, v, bk⟩ := x
    intro tm tm' h h' sn sn' done done' ha hv h1 h2
    obtain ⟨o, tm1, h3, sn1, a1, a2, a3, a4, a5, a6⟩ := ha
    have hE : ∀ j, bit (Nat.lor done (Nat.shiftLeft 1 i)) j = (bit done j || decide (j = i)) := fun j => by rw [bit_lor, bit_one]
    have hv0 : val i = v := hv _ List.mem_cons_self
    obtain ⟨b1, b2, b3⟩ := ih a6 (fun x hx => hv x (List.mem_cons_of_mem _ hx)) (by
      intro t
      rw [(putA_get a5.1 t).1, tmD_put F a1 hE a2 (fun j k _ => h2 j k) t, hv0, h1 t]) (by
      intro j k hj hk
      rw [hE] at hj ⊢
      simp only [Bool.or_eq_true, decide_eq_true_eq] at hj ⊢
      rcases hj with hj | rfl
      · exact .inl (h2 j k hj hk)
      · exact .inl (a3 k hk))
    exact ⟨b1, b2, b3.trans (putA_get a5.1 0).2⟩

end
end Go.Ev
