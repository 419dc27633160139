/- Regions whose order is open: whatever order the machine draws, it comes to what the evaluator tells; no theorem of the program yet; no conditions.
   The evaluator goes in one order (canon). Of any other: D are the operations done; the anchors among them are a beginning of the evaluator's; the state is the evaluator's behind the last of these anchors,
   with the blocks made ahead of time laid beside (gOf) and each temporary as its last writer in D has left it (tmD). -/
import Derived.Test.YtlngklpiapbpmaaEvS
set_option linter.unusedSimpArgs false
set_option linter.unusedVariables false
namespace Go.Ev

/-! ### Bits -/
theorem bit_eq (m i : Nat) : bit m i = m.testBit i := by
  unfold bit Nat.testBit
  have h : Nat.land (Nat.shiftRight m i) 1 = (m >>> i) % 2 := land_one _
  rw [h, Nat.and_comm, Nat.and_one_is_mod]
  rcases Nat.mod_two_eq_zero_or_one (m >>> i) with e | e <;> rw [e] <;> rfl

theorem bit_zero (i : Nat) : bit 0 i = false := by rw [bit_eq]; simp
theorem bit_lor (a b i : Nat) : bit (Nat.lor a b) i = (bit a i || bit b i) := by
  simp only [bit_eq]; exact Nat.testBit_or a b i
theorem bit_one (j i : Nat) : bit (Nat.shiftLeft 1 j) i = decide (i = j) := by
  rw [bit_eq]
  show (1 <<< j).testBit i = _
  rw [Nat.testBit_shiftLeft]
  by_cases h : i = j
  · subst h; simp
  · by_cases h' : j ≤ i
    · have : i - j ≠ 0 := by omega
      obtain ⟨k, hk⟩ : ∃ k, i - j = k + 1 := ⟨i - j - 1, by omega⟩
      simp [h, h', hk, Nat.testBit_succ]
    · simp [h, h']
theorem bit_land {a b : Nat} (h : Nat.beq (Nat.land a b) a = true) {i : Nat} (hi : bit a i = true) : bit b i = true := by
  have h1 := beq_eq h
  rw [← h1] at hi
  rw [bit_eq] at hi ⊢
  have : (a &&& b).testBit i = true := hi
  rw [Nat.testBit_and, Bool.and_eq_true] at this
  exact this.2
theorem bit_full (n i : Nat) : bit (Nat.shiftLeft 1 n - 1) i = decide (i < n) := by
  rw [bit_eq]
  have : Nat.shiftLeft 1 n = 2 ^ n := by show 1 <<< n = _; rw [Nat.shiftLeft_eq, Nat.one_mul]
  rw [this, Nat.testBit_two_pow_sub_one]

theorem bit_orAll (bs : List Nat) (k : Nat) : ∀ (l : List Nat), bit (orAll bs l) k = true ↔ ∃ j ∈ l, k = j ∨ bit ((nth bs j).getD 0) k = true := by
  intro l
  induction l with
  | nil => simp [orAll, bit_zero]
  | cons i l ih =>
    simp only [orAll, bit_lor, bit_one, Bool.or_eq_true, decide_eq_true_eq, List.mem_cons, ih]
    constructor
    · rintro ((h | h) | ⟨j, h1, h2⟩)
      · exact ⟨i, .inl rfl, .inl h⟩
      · exact ⟨i, .inl rfl, .inr h⟩
      · exact ⟨j, .inr h1, h2⟩
    · rintro ⟨j, rfl | h1, h2⟩
      · exact .inl h2
      · exact .inr ⟨j, h1, h2⟩

/-! ### Kinds -/
theorem kind_cls {P : Program} {pc : PC} {ea : Operand → Res AV} {op : Op} : kindC (cls P pc ea op) = kindO P op := by
  unfold kindO
  cases op with
  | call c =>
    show kindC (clsCall P pc ea c) = kindC (clsCall P [] noEa c)
    unfold clsCall
    split
    · unfold clsB; split <;> rfl
    · rfl
  | convert s d x =>
    show kindC (clsConv P pc ea s d x) = kindC (clsConv P [] noEa s d x)
    unfold clsConv
    cases plainConv P s d <;> rfl
  | next it str => cases str <;> rfl
  | _ => rfl

/-! ### The form -/
structure Form (ops : Array Oper) (bs : List Nat) : Prop where
  low : ∀ i o, ops[i]? = some o → ∀ j ∈ ons o, j < i
  eqn : ∀ i o, ops[i]? = some o → (nth bs i).getD 0 = orAll bs (ons o)
  apart : ∀ i j x y, ops[i]? = some x → ops[j]? = some y → i < j → bit ((nth bs j).getD 0) i = false →
    (∀ d, x.dst = some d → has (looks ops.toList y) d = false ∧ y.dst ≠ some d) ∧ (∀ e, y.dst = some e → has (looks ops.toList x) e = false)

theorem apartAll_spec {ops : List Oper} {y : Oper} {by_ : Nat} : ∀ {l : List Oper} {k j : Nat}, apartAll ops y by_ l k j = true → ∀ i x, l[i]? = some x → k + i < j → bit by_ (k + i) = false →
    (∀ d, x.dst = some d → has (looks ops y) d = false ∧ y.dst ≠ some d) ∧ (∀ e, y.dst = some e → has (looks ops x) e = false) := by
  intro l
  induction l with
  | nil => intro k j _ i x hx; simp at hx
  | cons z l ih =>
    intro k j h i x hx hk hb
    simp only [apartAll, Bool.or_eq_true, Bool.and_eq_true] at h
    rcases h with h | ⟨h1, h2⟩
    · have : j ≤ k := by simpa using h
      omega
    · cases i with
      | zero =>
        simp at hx
        subst hx
        simp only [Nat.add_zero] at hb
        simp only [apartO, hb, Bool.false_or, Bool.and_eq_true] at h1
        obtain ⟨h3, h4⟩ := h1
        constructor
        · intro d hd
          rw [hd] at h3
          simp only [Bool.and_eq_true, Bool.not_eq_true'] at h3
          refine ⟨h3.1, fun e => ?_⟩
          rw [e] at h3
          simp at h3
        · intro e he
          rw [he] at h4
          simpa using h4
      | succ i =>
        have := ih h2 i x (by simpa using hx) (by omega) (by rw [← hb]; congr 1; omega)
        exact this

theorem regOK_form {ops : Array Oper} {bs : List Nat} (h : regOK ops.toList bs = true) : Form ops bs := by
  have go : ∀ {l : List Oper} {k : Nat}, regOKGo ops.toList bs l k = true → ∀ i o, l[i]? = some o →
      (ons o).all (fun e => Nat.blt e (k + i)) = true ∧ Nat.beq ((nth bs (k + i)).getD 0) (orAll bs (ons o)) = true ∧ apartAll ops.toList o ((nth bs (k + i)).getD 0) ops.toList 0 (k + i) = true := by
    intro l
    induction l with
    | nil => intro k _ i o ho; simp at ho
    | cons z l ih =>
      intro k h i o ho
      simp only [regOKGo, Bool.and_eq_true] at h
      cases i with
      | zero => simp at ho; subst ho; exact ⟨h.1, h.2.1, h.2.2.1⟩
      | succ i =>
        have := ih h.2.2.2 i o (by simpa using ho)
        have e : Nat.succ k + i = k + (i + 1) := by omega
        rw [e] at this
        exact this
  have h0 := fun i o ho => go (k := 0) h i o ho
  refine ⟨?_, ?_, ?_⟩
  · intro i o ho j hj
    obtain ⟨h1, _, _⟩ := h0 i o (by rw [Array.getElem?_toList]; exact ho)
    have := List.all_eq_true.1 h1 j hj
    simpa using this
  · intro i o ho
    obtain ⟨_, h1, _⟩ := h0 i o (by rw [Array.getElem?_toList]; exact ho)
    simpa using beq_eq h1
  · intro i j x y hx hy hij hb
    obtain ⟨_, _, h1⟩ := h0 j y (by rw [Array.getElem?_toList]; exact hy)
    rw [Nat.zero_add] at h1
    have := apartAll_spec h1 i x (by rw [Array.getElem?_toList]; exact hx) (by omega) (by rw [Nat.zero_add]; exact hb)
    exact this

theorem has_false {l : List Nat} {t : Nat} (h : has l t = false) : t ∉ l := by
  induction l with
  | nil => simp
  | cons x l ih =>
    simp only [has, Bool.or_eq_false_iff] at h
    intro hm
    rcases List.mem_cons.1 hm with rfl | hm
    · simp at h
    · exact ih h.2 hm

/-! ### The last writer -/
section
variable (ops : Array Oper)
def dstOf (k : Nat) : Option Nat := (ops[k]?).bind (·.dst)

def lw (D : Nat → Bool) (t : Nat) : Nat → Option Nat
  | 0 => none
  | k + 1 => if D k = true ∧ dstOf ops k = some t then some k else lw D t k

def und (D : Nat → Bool) : Nat → Nat
  | 0 => 0
  | k + 1 => und D k + (if D k = true then 0 else 1)

variable {ops}
theorem lw_congr {D E : Nat → Bool} {t : Nat} : ∀ {n : Nat}, (∀ j, j < n → dstOf ops j = some t → D j = E j) → lw ops D t n = lw ops E t n := by
  intro n
  induction n with
  | zero => intro _; rfl
  | succ n ih =>
    intro h
    simp only [lw]
    rw [ih fun j hj => h j (by omega)]
    by_cases hd : dstOf ops n = some t
    · rw [h n (by omega) hd]
    · simp [hd]

theorem lw_lt {D : Nat → Bool} {t j : Nat} : ∀ {n : Nat}, lw ops D t n = some j → j < n ∧ D j = true ∧ dstOf ops j = some t := by
  intro n
  induction n with
  | zero => intro h; cases h
  | succ n ih =>
    intro h
    simp only [lw] at h
    split at h
    · rename_i hc; cases h; exact ⟨by omega, hc⟩
    · obtain ⟨h1, h2⟩ := ih h; exact ⟨by omega, h2⟩

theorem lw_add {D E : Nat → Bool} {i t : Nat} (hE : ∀ j, E j = (D j || decide (j = i))) (hi : D i = false) : ∀ {n : Nat}, (∀ j, i < j → j < n → D j = true → ∀ d, dstOf ops i = some d → dstOf ops j ≠ some d) →
    lw ops E t n = if i < n ∧ dstOf ops i = some t then some i else lw ops D t n := by
  intro n
  induction n with
  | zero => intro _; simp [lw]
  | succ n ih =>
    intro h
    simp only [lw]
    rw [ih fun j h1 h2 => h j h1 (by omega), hE]
    by_cases hn : n = i
    · subst hn
      simp only [hi, Bool.false_or, decide_true, true_and, Nat.lt_irrefl, false_and, if_false, Nat.lt_succ_self, Bool.false_eq_true]
    · simp only [hn, decide_false, Bool.or_false]
      by_cases hc : D n = true ∧ dstOf ops n = some t
      · rw [if_pos hc]
        by_cases hin : i < n + 1 ∧ dstOf ops i = some t
        · exact absurd hc.2 (h n (by omega) (by omega) hc.1 t hin.2)
        · rw [if_neg hin, if_pos hc]
      · rw [if_neg hc, if_neg hc]
        by_cases hlt : i < n
        · have : i < n + 1 := by omega
          simp [hlt, this]
        · have : ¬ i < n + 1 := by omega
          simp [hlt, this]

theorem und_add {D E : Nat → Bool} {i : Nat} (hE : ∀ j, E j = (D j || decide (j = i))) (hi : D i = false) : ∀ {n : Nat}, und D n = und E n + (if i < n then 1 else 0) := by
  intro n
  induction n with
  | zero => simp [und]
  | succ n ih =>
    simp only [und]
    rw [ih, hE]
    by_cases hn : n = i
    · subst hn; simp [hi]
    · by_cases hlt : i < n
      · have : i < n + 1 := by omega
        simp [hn, hlt, this]; omega
      · have : ¬ i < n + 1 := by omega
        simp [hn, hlt, this]

theorem und_zero {D : Nat → Bool} : ∀ {n : Nat}, und D n = 0 → ∀ j, j < n → D j = true := by
  intro n
  induction n with
  | zero => intro _ j hj; omega
  | succ n ih =>
    intro h j hj
    simp only [und] at h
    by_cases e : j = n
    · subst e
      by_cases hd : D j = true
      · exact hd
      · simp [hd] at h
    · exact ih (by omega) j (by omega)
end
end Go.Ev

/- Regions whose order is open, the evaluator's own order; no theorem of the program yet; no conditions. -/
namespace Go.Ev
section
variable (P : Program) (pc : PC) (X : Hooks) (r : Rec) (fr : Fr) (ops : Array Oper) (bs : List Nat) (base : Nat)

abbrev Snaps := List (Nat × H)

def orB (a b : Option Blk) : Option Blk := match a with
  | some x => some x
  | none => b

/-- What one operation of the evaluator's order does. -/
def Out (i : Nat) (o : Oper) (tm : Tm) (h : H) (sn : Snaps) (v : Option AV) (bk : Option Blk) (tm1 : Tm) (h1 : H) (sn1 : Snaps) : Prop :=
  putA fr.nt tm o.dst v = .ok tm1 ∧ (∀ x ∈ sn, x ∈ sn1) ∧ ((kindO P o.op).isAnchor = true → (i, h) ∈ sn1) ∧
  ((wantA pc ops.toList tm o = .ok false ∧ v = some (.tup []) ∧ bk = none ∧ h1 = h) ∨
   (wantA pc ops.toList tm o = .ok true ∧
     ((∃ a, cls P pc (evalA tm) o.op = .pure (.ok a) ∧ v = some a ∧ bk = none ∧ h1 = h) ∨
      (∃ f a, cls P pc (evalA tm) o.op = .load f ∧ f h = .ok a ∧ v = some a ∧ bk = none ∧ h1 = h ∧ addrBelow (evalA tm) base o.op = true ∧ sameAhead P pc (evalA tm) o.op a ((nth bs i).getD 0) sn = true) ∨
      (∃ b mk, cls P pc (evalA tm) o.op = .alloc (.ok (b, mk)) ∧ v = some (mk (base + i)) ∧ bk = some b ∧ h1 = h.set (base + i) b) ∨
      ((kindO P o.op).isAnchor = true ∧ opA P X pc r (evalA tm) h o.op = .ok (v, h1) ∧ bk = none))))

theorem stepD_out {i : Nat} {o : Oper} {tm tm1 : Tm} {h h1 : H} {sn sn1 : Snaps} (hr : stepD P X pc r fr ops.toList base i ((nth bs i).getD 0) o tm h sn = .ok (tm1, h1, sn1)) :
    ∃ v bk, Out P pc X r fr ops bs base i o tm h sn v bk tm1 h1 sn1 := by
  unfold stepD at hr
  obtain ⟨wb, hw, hr⟩ := Res.bind_eq_ok hr
  rcases cond_eq hr with ⟨h2, hr⟩ | ⟨h2, hr⟩
  · subst h2
    have anch : ∀ c, cls P pc (evalA tm) o.op = c → (kindC c).isAnchor = true → ((opC X pc r (evalA tm) h c).bind fun x => (putA fr.nt tm o.dst x.1).bind fun tm => .ok (tm, x.2, (i, h) :: sn)) = .ok (tm1, h1, sn1) →
        ∃ v bk, Out P pc X r fr ops bs base i o tm h sn v bk tm1 h1 sn1 := by
      intro c hc hk hr
      obtain ⟨⟨v, h3⟩, h4, hr⟩ := Res.bind_eq_ok hr
      obtain ⟨tm2, h5, hr⟩ := Res.bind_eq_ok hr
      cases hr
      refine ⟨v, none, h5, fun x hx => List.mem_cons_of_mem _ hx, fun _ => List.mem_cons_self, .inr ⟨hw, .inr (.inr (.inr ⟨?_, ?_, rfl⟩))⟩⟩
      · rw [← kind_cls (pc := pc) (ea := evalA tm), hc]; exact hk
      · unfold opA; rw [hc]; exact h4
    have notA : ∀ c, cls P pc (evalA tm) o.op = c → (kindC c).isAnchor = false → (kindO P o.op).isAnchor = true → False := by
      intro c hc hk hk2
      rw [← kind_cls (pc := pc) (ea := evalA tm), hc, hk] at hk2
      cases hk2
    split at hr
    · rename_i x hc
      obtain ⟨a, rfl, hr⟩ := Res.bind_eq_ok hr
      obtain ⟨tm2, h5, hr⟩ := Res.bind_eq_ok hr
      cases hr
      exact ⟨some a, none, h5, fun x hx => hx, fun h => (notA _ hc rfl h).elim, .inr ⟨hw, .inl ⟨a, hc, rfl, rfl, rfl⟩⟩⟩
    · rename_i f hc
      obtain ⟨a, h3, hr⟩ := Res.bind_eq_ok hr
      rcases cond_eq hr with ⟨h4, hr⟩ | ⟨_, hr⟩
      · obtain ⟨tm2, h5, hr⟩ := Res.bind_eq_ok hr
        cases hr
        simp only [Bool.and_eq_true] at h4
        exact ⟨some a, none, h5, fun x hx => hx, fun h => (notA _ hc rfl h).elim, .inr ⟨hw, .inr (.inl ⟨f, a, hc, h3, rfl, rfl, rfl, h4.1, h4.2⟩)⟩⟩
      · cases hr
    · rename_i x hc
      obtain ⟨⟨b, mk⟩, rfl, hr⟩ := Res.bind_eq_ok hr
      obtain ⟨tm2, h5, hr⟩ := Res.bind_eq_ok hr
      cases hr
      exact ⟨some (mk (base + i)), some b, h5, fun x hx => hx, fun h => (notA _ hc rfl h).elim, .inr ⟨hw, .inr (.inr (.inl ⟨b, mk, hc, rfl, rfl, rfl⟩))⟩⟩
    · rename_i n1 n2 n3
      refine anch _ rfl ?_ hr
      cases hc : cls P pc (evalA tm) o.op with
      | pure v => exact (n1 _ hc).elim
      | load f => exact (n2 _ hc).elim
      | alloc x => exact (n3 _ hc).elim
      | heap f => rfl
      | call c => rfl
      | no => rfl
  · subst h2
    obtain ⟨tm2, h5, hr⟩ := Res.bind_eq_ok hr
    cases hr
    refine ⟨some (.tup []), none, h5, ?_, ?_, .inl ⟨hw, rfl, rfl, rfl⟩⟩
    · intro x hx
      split
      · exact List.mem_cons_of_mem _ hx
      · exact hx
    · intro hk
      split
      · exact List.mem_cons_self
      · rename_i hne
        cases hkk : kindO P o.op <;> rw [hkk] at hk <;> first | (cases hk; done) | exact (hne hkk).elim

abbrev Tr := List (Nat × Option AV × Option Blk)

/-- The evaluator's order, told operation by operation. -/
def Along : Tr → Tm → H → Snaps → Nat → Tm → H → Snaps → Nat → Prop
  | [], tm, h, sn, done, tm', h', sn', done' => tm' = tm ∧ h' = h ∧ sn' = sn ∧ done' = done
  | (i, v, bk) :: l, tm, h, sn, done, tm', h', sn', done' => ∃ o tm1 h1 sn1, ops[i]? = some o ∧ bit done i = false ∧ (∀ k, bit ((nth bs i).getD 0) k = true → bit done k = true) ∧ ((kindO P o.op).isAnchor = true → done = (nth bs i).getD 0) ∧
      Out P pc X r fr ops bs base i o tm h sn v bk tm1 h1 sn1 ∧ Along l tm1 h1 sn1 (Nat.lor done (Nat.shiftLeft 1 i)) tm' h' sn' done'

theorem opsD_along {full : Nat} : ∀ {l : List Nat} {tm tm' : Tm} {h h' : H} {sn : Snaps} {done : Nat}, opsD P X pc r fr ops.toList bs base full l tm h sn done = .ok (tm', h') →
    ∃ T sn', Along P pc X r fr ops bs base T tm h sn done tm' h' sn' full := by
  intro l
  induction l with
  | nil =>
    intro tm tm' h h' sn done hr
    simp only [opsD] at hr
    rcases cond_eq hr with ⟨h1, hr⟩ | ⟨_, hr⟩
    · cases hr
      exact ⟨[], sn, rfl, rfl, rfl, (beq_eq h1).symm⟩
    · cases hr
  | cons i l ih =>
    intro tm tm' h h' sn done hr
    simp only [opsD] at hr
    split at hr
    · cases hr
    · rename_i o ho
      rw [nth_eq, Array.getElem?_toList] at ho
      rcases cond_eq hr with ⟨_, hr⟩ | ⟨h1, hr⟩
      · cases hr
      · rcases cond_eq hr with ⟨h2, hr⟩ | ⟨_, hr⟩
        · obtain ⟨⟨tm1, h3, sn1⟩, h4, h5⟩ := Res.bind_eq_ok hr
          obtain ⟨v, bk, h6⟩ := stepD_out P pc X r fr ops bs base h4
          obtain ⟨T, sn', h7⟩ := ih h5
          simp only [Bool.and_eq_true, Bool.or_eq_true, Bool.not_eq_true'] at h2
          refine ⟨(i, v, bk) :: T, sn', o, tm1, h3, sn1, ho, h1, fun k hk => bit_land h2.1 hk, fun hk => ?_, h6, h7⟩
          rcases h2.2 with h8 | h8
          · rw [h8] at hk; cases hk
          · exact beq_eq h8
        · cases hr

variable {P pc X r fr ops bs base}
theorem along_append : ∀ {T1 T2 : Tr} {tm tm' : Tm} {h h' : H} {sn sn' : Snaps} {done done' : Nat}, Along P pc X r fr ops bs base (T1 ++ T2) tm h sn done tm' h' sn' done' →
    ∃ tm1 h1 sn1 done1, Along P pc X r fr ops bs base T1 tm h sn done tm1 h1 sn1 done1 ∧ Along P pc X r fr ops bs base T2 tm1 h1 sn1 done1 tm' h' sn' done' := by
  intro T1
  induction T1 with
  | nil => intro T2 tm tm' h h' sn sn' done done' ha; exact ⟨tm, h, sn, done, ⟨rfl, rfl, rfl, rfl⟩, ha⟩
  | cons x T1 ih =>
    obtain ⟨i, v, bk⟩ := x
    intro T2 tm tm' h h' sn sn' done done' ha
    obtain ⟨o, tm1, h1, sn1, a1, a2, a3, a4, a5, a6⟩ := ha
    obtain ⟨tm2, h2, sn2, done2, b1, b2⟩ := ih a6
    exact ⟨tm2, h2, sn2, done2, ⟨o, tm1, h1, sn1, a1, a2, a3, a4, a5, b1⟩, b2⟩

theorem along_done : ∀ {T : Tr} {tm tm' : Tm} {h h' : H} {sn sn' : Snaps} {done done' : Nat}, Along P pc X r fr ops bs base T tm h sn done tm' h' sn' done' →
    (∀ k, bit done' k = true ↔ bit done k = true ∨ k ∈ T.map (·.1)) ∧ (∀ x ∈ T, bit done x.1 = false) ∧ (T.map (·.1)).Nodup ∧ (∀ x ∈ sn, x ∈ sn') := by
  intro T
  induction T with
  | nil => rintro tm tm' h h' sn sn' done done' ⟨_, _, rfl, rfl⟩; simp
  | cons x T ih =>
    obtain ⟨i, v, bk⟩ := x
    intro tm tm' h h' sn sn' done done' ha
    obtain ⟨o, tm1, h1, sn1, a1, a2, a3, a4, a5, a6⟩ := ha
    obtain ⟨b1, b2, b3, b4⟩ := ih a6
    have hn : i ∉ T.map (·.1) := by
      intro hm
      obtain ⟨x, hx, e⟩ := List.mem_map.1 hm
      have := b2 x hx
      rw [bit_lor, bit_one, e] at this
      simp at this
    refine ⟨?_, ?_, ?_, fun x hx => b4 x (a5.2.1 x hx)⟩
    · intro k
      rw [b1 k, bit_lor, bit_one]
      simp only [Bool.or_eq_true, decide_eq_true_eq, List.map_cons, List.mem_cons]
      constructor
      · rintro ((h | h) | h)
        · exact .inl h
        · exact .inr (.inl h)
        · exact .inr (.inr h)
      · rintro (h | h | h)
        · exact .inl (.inl h)
        · exact .inl (.inr h)
        · exact .inr h
    · intro x hx
      rcases List.mem_cons.1 hx with rfl | hx
      · exact a2
      · have := b2 x hx
        rw [bit_lor] at this
        simp only [Bool.or_eq_false_iff] at this
        exact this.1
    · simp only [List.map_cons, List.nodup_cons]
      exact ⟨hn, b3⟩

theorem lowset {h h1 : H} {o : Oper} {i : Nat} {tm tm1 : Tm} {sn sn1 : Snaps} {v : Option AV} {bk : Option Blk} (ho : Out P pc X r fr ops bs base i o tm h sn v bk tm1 h1 sn1) (hk : (kindO P o.op).isAnchor = false) :
    h1.next = h.next ∧ ∀ id, h1.get id = (if id = base + i then orB bk (h.get id) else h.get id) := by
  have same : ∀ {bk : Option Blk} {h : H} (id : Nat), bk = none → h.get id = (if id = base + i then orB bk (h.get id) else h.get id) := by
    rintro _ h id rfl
    split <;> rfl
  rcases ho.2.2.2 with ⟨_, _, hb, rfl⟩ | ⟨_, ⟨a, _, _, hb, rfl⟩ | ⟨f, a, _, _, _, hb, rfl, _⟩ | ⟨b, mk, _, _, rfl, rfl⟩ | ⟨hk2, _⟩⟩
  · exact ⟨rfl, fun id => same id hb⟩
  · exact ⟨rfl, fun id => same id hb⟩
  · exact ⟨rfl, fun id => same id hb⟩
  · refine ⟨rfl, fun id => ?_⟩
    rw [H.get_set]; rfl
  · rw [hk] at hk2; cases hk2

/-- No anchors: the heap gets the blocks that are made. -/
theorem along_heap {blk : Nat → Option Blk} : ∀ {T : Tr} {tm tm' : Tm} {h h' : H} {sn sn' : Snaps} {done done' : Nat}, Along P pc X r fr ops bs base T tm h sn done tm' h' sn' done' →
    (∀ x ∈ T, ∀ o, ops[x.1]? = some o → (kindO P o.op).isAnchor = false) → (∀ x ∈ T, blk x.1 = x.2.2) → h'.next = h.next ∧
    ∀ id, h'.get id = (if base ≤ id ∧ id - base ∈ T.map (·.1) then orB (blk (id - base)) (h.get id) else h.get id) := by
  intro T
  induction T with
  | nil => rintro tm tm' h h' sn sn' done done' ⟨_, rfl, _, _⟩ _ _; exact ⟨rfl, fun id => by simp⟩
  | cons x T ih =>
    obtain ⟨i, v, bk⟩ := x
    intro tm tm' h h' sn sn' done done' ha hk hb
    have hnd := (along_done ha).2.2.1
    obtain ⟨o, tm1, h1, sn1, a1, a2, a3, a4, a5, a6⟩ := ha
    obtain ⟨n1, g1⟩ := lowset a5 (hk _ List.mem_cons_self o a1)
    obtain ⟨n2, g2⟩ := ih a6 (fun x hx => hk x (List.mem_cons_of_mem _ hx)) (fun x hx => hb x (List.mem_cons_of_mem _ hx))
    refine ⟨n2.trans n1, fun id => ?_⟩
    have hbi : blk i = bk := hb _ List.mem_cons_self
    simp only [List.map_cons, List.nodup_cons] at hnd
    rw [g2 id, g1 id]
    by_cases e : id = base + i
    · subst e
      have e1 : base + i - base = i := by omega
      rw [e1, if_neg (fun h => hnd.1 h.2), if_pos rfl, if_pos ⟨by omega, by simp⟩, hbi]
    · rw [if_neg e]
      by_cases h2 : base ≤ id ∧ id - base ∈ T.map (·.1)
      · rw [if_pos h2, if_pos ⟨h2.1, by simp only [List.map_cons, List.mem_cons]; exact .inr h2.2⟩]
      · rw [if_neg h2, if_neg]
        rintro ⟨h3, h4⟩
        simp only [List.map_cons, List.mem_cons] at h4
        rcases h4 with h4 | h4
        · exact e (by omega)
        · exact h2 ⟨h3, h4⟩

/-- What lies below base is told by the heap here, or ahead of the first anchor. -/
theorem along_low : ∀ {T : Tr} {tm tm' : Tm} {h h' : H} {sn sn' : Snaps} {done done' : Nat}, Along P pc X r fr ops bs base T tm h sn done tm' h' sn' done' →
    (∀ id, id < base → h'.get id = h.get id) ∨ (∃ x ∈ T, ∃ o, ops[x.1]? = some o ∧ (kindO P o.op).isAnchor = true ∧ ∃ ha, (x.1, ha) ∈ sn' ∧ ∀ id, id < base → ha.get id = h.get id) := by
  intro T
  induction T with
  | nil => rintro tm tm' h h' sn sn' done done' ⟨_, rfl, _, _⟩; exact .inl fun _ _ => rfl
  | cons x T ih =>
    obtain ⟨i, v, bk⟩ := x
    intro tm tm' h h' sn sn' done done' ha
    obtain ⟨o, tm1, h1, sn1, a1, a2, a3, a4, a5, a6⟩ := ha
    cases hk : (kindO P o.op).isAnchor with
    | true => exact .inr ⟨_, List.mem_cons_self, o, a1, hk, h, (along_done a6).2.2.2 _ (a5.2.2.1 hk), fun _ _ => rfl⟩
    | false =>
      have g1 := (lowset a5 hk).2
      have low : ∀ id, id < base → h1.get id = h.get id := fun id hid => by rw [g1 id, if_neg (by omega)]
      rcases ih a6 with h2 | ⟨x, hx, o', b1, b2, ha', b3, b4⟩
      · exact .inl fun id hid => (h2 id hid).trans (low id hid)
      · exact .inr ⟨x, List.mem_cons_of_mem _ hx, o', b1, b2, ha', b3, fun id hid => (b4 id hid).trans (low id hid)⟩

end
end Go.Ev
