/- Regions whose order is open: whatever order the machine draws, it comes to what the evaluator tells; no theorem of the program yet; no conditions.
   The evaluator goes in one order (canon). Of any other: D are the operations done; the anchors among them are a beginning of the evaluator's; the state is the evaluator's behind the last of these anchors,
   with the blocks made ahead of time laid beside (gOf) and each temporary as its last writer in D has left it (tmD). -/
import Derived.Test.YtcibejieeieknaaGreatDoorEvQ
set_option linter.unusedSimpArgs false
set_option linter.unusedVariables false
namespace Go.Ev

/-! ### Bits -/
theorem bit_eq (m i : Nat) : bit m i = m.testBit i := by
  unfold bit Nat.testBit
  have h : Nat.land (Nat.shiftRight m i) 1 = (m >>> i) % 2 := land_one _
  rw [h, Nat.and_comm, Nat.and_one_is_mod]
  rcases Nat.mod_two_eq_zero_or_one (m >>> i) with e | e <;> rw [e] <;> rfl

theorem bit_zero (i : Nat) : bit 0 i = false := by rw [bit_eq]; simp
theorem bit_lor (a b i : Nat) : bit (Nat.lor a b) i = (bit a i || bit b i) := by
  simp only [bit_eq]; exact Nat.testBit_or a b i
theorem bit_one (j i : Nat) : bit (Nat.shiftLeft 1 j) i = decide (i = j) := by
  rw [bit_eq]
  show (1 <<< j).testBit i = _
  rw [Nat.testBit_shiftLeft]
  by_cases h : i = j
  · subst h; simp
  · by_cases h' : j ≤ i
    · have : i - j ≠ 0 := by omega
      obtain ⟨k, hk⟩ : ∃ k, i - j = k + 1 := ⟨i - j - 1, by omega⟩
      simp [h, h', hk, Nat.testBit_succ]
    · simp [h, h']
theorem bit_land {a b : Nat} (h : Nat.beq (Nat.land a b) a = true) {i : Nat} (hi : bit a i = true) : bit b i = true := by
  have h1 := beq_eq h
  rw [← h1] at hi
  rw [bit_eq] at hi ⊢
  have : (a &&& b).testBit i = true := hi
  rw [Nat.testBit_and, Bool.and_eq_true] at this
  exact this.2
theorem bit_full (n i : Nat) : bit (Nat.shiftLeft 1 n - 1) i = decide (i < n) := by
  rw [bit_eq]
  have : Nat.shiftLeft 1 n = 2 ^ n := by show 1 <<< n = _; rw [Nat.shiftLeft_eq, Nat.one_mul]
  rw [this, Nat.testBit_two_pow_sub_one]

theorem bit_orAll (bs : List Nat) (k : Nat) : ∀ (l : List Nat), bit (orAll bs l) k = true ↔ ∃ j ∈ l, k = j ∨ bit ((nth bs j).getD 0) k = true := by
  intro l
  induction l with
  | nil => simp [orAll, bit_zero]
  | cons i l ih =>
    simp only [orAll, bit_lor, bit_one, Bool.or_eq_true, decide_eq_true_eq, List.mem_cons, ih]
    constructor
    · rintro ((h | h) | ⟨j, h1, h2⟩)
      · exact ⟨i, .inl rfl, .inl h⟩
      · exact ⟨i, .inl rfl, .inr h⟩
      · exact ⟨j, .inr h1, h2⟩
    · rintro ⟨j, rfl | h1, h2⟩
      · exact .inl h2
      · exact .inr ⟨j, h1, h2⟩

/-! ### Kinds -/
theorem kind_cls {P : Program} {pc : PC} {ea : Operand → Res AV} {op : Op} : kindC (cls P pc ea op) = kindO P op := by
  unfold kindO
  cases op with
  | call c =>
    show kindC (clsCall P pc ea c) = kindC (clsCall P [] noEa c)
    unfold clsCall
    split
    · unfold clsB; split <;> rfl
    · rfl
  | convert s d x =>
    show kindC (clsConv P pc ea s d x) = kindC (clsConv P [] noEa s d x)
    unfold clsConv
    cases plainConv P s d <;> rfl
  | next it str => cases str <;> rfl
  | _ => rfl

/-! ### The form -/
structure Form (ops : Array Oper) (bs : List Nat) : Prop where
  low : ∀ i o, ops[i]? = some o → ∀ j ∈ ons o, j < i
  eqn : ∀ i o, ops[i]? = some o → (nth bs i).getD 0 = orAll bs (ons o)
  apart : ∀ i j x y, ops[i]? = some x → ops[j]? = some y → i < j → bit ((nth bs j).getD 0) i = false →
    (∀ d, x.dst = some d → has (looks ops.toList y) d = false ∧ y.dst ≠ some d) ∧ (∀ e, y.dst = some e → has (looks ops.toList x) e = false)

theorem apartAll_spec {ops : List Oper} {y : Oper} {by_ : Nat} : ∀ {l : List Oper} {k j : Nat}, apartAll ops y by_ l k j = true → ∀ i x, l[i]? = some x → k + i < j → bit by_ (k + i) = false →
    (∀ d, x.dst = some d → has (looks ops y) d = false ∧ y.dst ≠ some d) ∧ (∀ e, y.dst = some e → has (looks ops x) e = false) := by
  intro l
  induction l with
  | nil => intro k j _ i x hx; simp at hx
  | cons z l ih =>
    intro k j h i x hx hk hb
    simp only [apartAll, Bool.or_eq_true, Bool.and_eq_true] at h
    rcases h with h | ⟨h1, h2⟩
    · have : j ≤ k := by simpa using h
      omega
    · cases i with
      | zero =>
        simp at hx
        subst hx
        simp only [Nat.add_zero] at hb
        simp only [apartO, hb, Bool.false_or, Bool.and_eq_true] at h1
        obtain ⟨h3, h4⟩ := h1
        constructor
        · intro d hd
          rw [hd] at h3
          simp only [Bool.and_eq_true, Bool.not_eq_true'] at h3
          refine ⟨h3.1, fun e => ?_⟩
          rw [e] at h3
          simp at h3
        · intro e he
          rw [he] at h4
          simpa using h4
      | succ i =>
        have := ih h2 i x (by simpa using hx) (by omega) (by rw [← hb]; congr 1; omega)
        exact this

theorem regOK_form {ops : Array Oper} {bs : List Nat} (h : regOK ops.toList bs = true) : Form ops bs := by
  have go : ∀ {l : List Oper} {k : Nat}, regOKGo ops.toList bs l k = true → ∀ i o, l[i]? = some o →
      (ons o).all (fun e => Nat.blt e (k + i)) = true ∧ Nat.beq ((nth bs (k + i)).getD 0) (orAll bs (ons o)) = true ∧ apartAll ops.toList o ((nth bs (k + i)).getD 0) ops.toList 0 (k + i) = true := by
    intro l
    induction l with
    | nil => intro k _ i o ho; simp at ho
    | cons z l ih =>
      intro k h i o ho
      simp only [regOKGo, Bool.and_eq_true] at h
      cases i with
      | zero => simp at ho; subst ho; exact ⟨h.1, h.2.1, h.2.2.1⟩
      | succ i =>
        have := ih h.2.2.2 i o (by simpa using ho)
        have e : Nat.succ k + i = k + (i + 1) := by omega
        rw [e] at this
        exact this
  have h0 := fun i o ho => go (k := 0) h i o ho
  refine ⟨?_, ?_, ?_⟩
  · intro i o ho j hj
    obtain ⟨h1, _, _⟩ := h0 i o (by rw [Array.getElem?_toList]; exact ho)
    have := List.all_eq_true.1 h1 j hj
    simpa using this
  · intro i o ho
    obtain ⟨_, h1, _⟩ := h0 i o (by rw [Array.getElem?_toList]; exact ho)
    simpa using beq_eq h1
  · intro i j x y hx hy hij hb
    obtain ⟨_, _, h1⟩ := h0 j y (by rw [Array.getElem?_toList]; exact hy)
    rw [Nat.zero_add] at h1
    have := apartAll_spec h1 i x (by rw [Array.getElem?_toList]; exact hx) (by omega) (by rw [Nat.zero_add]; exact hb)
    exact this

theorem has_false {l : List Nat} {t : Nat} (h : has l t = false) : t ∉ l := by
  induction l with
  | nil => simp
  | cons x l ih =>
    simp only [has, Bool.or_eq_false_iff] at h
    intro hm
    rcases List.mem_cons.1 hm with rfl | hm
    · simp at h
    · exact ih h.2 hm

/-! ### The last writer -/
section
variable (ops : Array Oper)
def dstOf (k : Nat) : Option Nat := (ops[k]?).bind (·.dst)

def lw (D : Nat → Bool) (t : Nat) : Nat → Option Nat
  | 0 => none
  | k + 1 => if D k = true ∧ dstOf ops k = some t then some k else lw D t k

def und (D : Nat → Bool) : Nat → Nat
  | 0 => 0
  | k + 1 => und D k + (if D k = true then 0 else 1)

variable {ops}
theorem lw_congr {D E : Nat → Bool} {t : Nat} : ∀ {n : Nat}, (∀ j, j < n → dstOf ops j = some t → D j = E j) → lw ops D t n = lw ops E t n := by
  intro n
  induction n with
  | zero => intro _; rfl
  | succ n ih =>
    intro h
    simp only [lw]
    rw [ih fun j hj => h j (by omega)]
    by_cases hd : dstOf ops n = some t
    · rw [h n (by omega) hd]
    · simp [hd]

theorem lw_lt {D : Nat → Bool} {t j : Nat} : ∀ {n : Nat}, lw ops D t n = some j → j < n ∧ D j = true ∧ dstOf ops j = some t := by
  intro n
  induction n with
  | zero => intro h; cases h
  | succ n ih =>
    intro h
    simp only [lw] at h
    split at h
    · rename_i hc; cases h; exact ⟨by omega, hc⟩
    · obtain ⟨h1, h2⟩ := ih h; exact ⟨by omega, h2⟩

theorem lw_add {D E : Nat → Bool} {i t : Nat} (hE : ∀ j, E j = (D j || decide (j = i))) (hi : D i = false) : ∀ {n : Nat}, (∀ j, i < j → j < n → D j = true → ∀ d, dstOf ops i = some d → dstOf ops j ≠ some d) →
    lw ops E t n = if i < n ∧ dstOf ops i = some t then some i else lw ops D t n := by
  intro n
  induction n with
  | zero => intro _; simp [lw]
  | succ n ih =>
    intro h
    simp only [lw]
    rw [ih fun j h1 h2 => h j h1 (by omega), hE]
    by_cases hn : n = i
    · subst hn
      simp only [hi, Bool.false_or, decide_true, true_and, Nat.lt_irrefl, false_and, if_false, Nat.lt_succ_self, Bool.false_eq_true]
    · simp only [hn, decide_false, Bool.or_false]
      by_cases hc : D n = true ∧ dstOf ops n = some t
      · rw [if_pos hc]
        by_cases hin : i < n + 1 ∧ dstOf ops i = some t
        · exact absurd hc.2 (h n (by omega) (by omega) hc.1 t hin.2)
        · rw [if_neg hin, if_pos hc]
      · rw [if_neg hc, if_neg hc]
        by_cases hlt : i < n
        · have : i < n + 1 := by omega
          simp [hlt, this]
        · have : ¬ i < n + 1 := by omega
          simp [hlt, this]

theorem und_add {D E : Nat → Bool} {i : Nat} (hE : ∀ j, E j = (D j || decide (j = i))) (hi : D i = false) : ∀ {n : Nat}, und D n = und E n + (if i < n then 1 else 0) := by
  intro n
  induction n with
  | zero => simp [und]
  | succ n ih =>
    simp only [und]
    rw [ih, hE]
    by_cases hn : n = i
    · subst hn; simp [hi]
    · by_cases hlt : i < n
      · have : i < n + 1 := by omega
        simp [hn, hlt, this]; omega
      · have : ¬ i < n + 1 := by omega
        simp [hn, hlt, this]

theorem und_zero {D : Nat → Bool} : ∀ {n : Nat}, und D n = 0 → ∀ j, j < n → D j = true := by
  intro n
  induction n with
  | zero => intro _ j hj; omega
  | succ n ih =>
    intro h j hj
    simp only [und] at h
    by_cases e : j = n
    · subst e
      by_cases hd : D j = true
      · exact hd
      · simp [hd] at h
    · exact ih (by omega) j (by omega)
end
end Go.Ev

/- Regions whose order is open, the evaluator's own order; no theorem of the program yet; no conditions. -/
namespace Go.Ev
section
variable (P : Program) (pc : PC) (X : Hooks) (r : Rec) (fr : Fr) (ops : Array Oper) (bs : List Nat) (base : Nat)

abbrev Snaps := List (Nat × H)

def orB (a b : Option Blk) : Option Blk := match a with
  | some x => some x
  | none => b

/-- What one operation of the evaluator's order does. -/
def Out (i : Nat) (o : Oper) (tm : Tm) (h : H) (sn : Snaps) (v : Option AV) (bk : Option Blk) (tm1 : Tm) (h1 : H) (sn1 : Snaps) : Prop :=
  putA fr.nt tm o.dst v = .ok tm1 ∧ (∀ x ∈ sn, x ∈ sn1) ∧ ((kindO P o.op).isAnchor = true → (i, h) ∈ sn1) ∧
  ((wantA pc ops.toList tm o = .ok false ∧ v = some (.tup []) ∧ bk = none ∧ h1 = h) ∨
   (wantA pc ops.toList tm o = .ok true ∧
     ((∃ a, cls P pc (evalA tm) o.op = .pure (.ok a) ∧ v = some a ∧ bk = none ∧ h1 = h) ∨
      (∃ f a, cls P pc (evalA tm) o.op = .load f ∧ f h = .ok a ∧ v = some a ∧ bk = none ∧ h1 = h ∧ addrBelow (evalA tm) base o.op = true ∧ sameAhead P pc (evalA tm) o.op a ((nth bs i).getD 0) sn = true) ∨
      (∃ b mk, cls P pc (evalA tm) o.op = .alloc (.ok (b, mk)) ∧ v = some (mk (base + i)) ∧ bk = some b ∧ h1 = h.set (base + i) b) ∨
      ((kindO P o.op).isAnchor = true ∧ opA P X pc r (evalA tm) h o.op = .ok (v, h1) ∧ bk = none))))

theorem stepD_out {i : Nat} {o : Oper} {tm tm1 : Tm} {h h1 : H} {sn sn1 : Snaps} (hr : stepD P X pc r fr ops.toList base i ((nth bs i).getD 0) o tm h sn = .ok (tm1, h1, sn1)) :
    ∃ v bk, Out P pc X r fr ops bs base i o tm h sn v bk tm1 h1 sn1 := by
  unfold stepD at hr
  obtain ⟨wb, hw, hr⟩ := Res.bind_eq_ok hr
  rcases cond_eq hr with ⟨h2, hr⟩ | ⟨h2, hr⟩
  · subst h2
    have anch : ∀ c, cls P pc (evalA tm) o.op = c → (kindC c).isAnchor = true → ((opC X pc r (evalA tm) h c).bind fun x => (putA fr.nt tm o.dst x.1).bind fun tm => .ok (tm, x.2, (i, h) :: sn)) = .ok (tm1, h1, sn1) →
        ∃ v bk, Out P pc X r fr ops bs base i o tm h sn v bk tm1 h1 sn1 := by
      intro c hc hk hr
      obtain ⟨⟨v, h3⟩, h4, hr⟩ := Res.bind_eq_ok hr
      obtain ⟨tm2, h5, hr⟩ := Res.bind_eq_ok hr
      cases hr
      refine ⟨v, none, h5, fun x hx => List.mem_cons_of_mem _ hx, fun _ => List.mem_cons_self, .inr ⟨hw, .inr (.inr (.inr ⟨?_, ?_, rfl⟩))⟩⟩
      · rw [← kind_cls (pc := pc) (ea := evalA tm), hc]; exact hk
      · unfold opA; rw [hc]; exact h4
    have notA : ∀ c, cls P pc (evalA tm) o.op = c → (kindC c).isAnchor = false → (kindO P o.op).isAnchor = true → False := by
      intro c hc hk hk2
      rw [← kind_cls (pc := pc) (ea := evalA tm), hc, hk] at hk2
      cases hk2
    split at hr
    · rename_i x hc
      obtain ⟨a, rfl, hr⟩ := Res.bind_eq_ok hr
      obtain ⟨tm2, h5, hr⟩ := Res.bind_eq_ok hr
      cases hr
      exact ⟨some a, none, h5, fun x hx => hx, fun h => (notA _ hc rfl h).elim, .inr ⟨hw, .inl ⟨a, hc, rfl, rfl, rfl⟩⟩⟩
    · rename_i f hc
      obtain ⟨a, h3, hr⟩ := Res.bind_eq_ok hr
      rcases cond_eq hr with ⟨h4, hr⟩ | ⟨_, hr⟩
      · obtain ⟨tm2, h5, hr⟩ := Res.bind_eq_ok hr
        cases hr
        simp only [Bool.and_eq_true] at h4
        exact ⟨some a, none, h5, fun x hx => hx, fun h => (notA _ hc rfl h).elim, .inr ⟨hw, .inr (.inl ⟨f, a, hc, h3, rfl, rfl, rfl, h4.1, h4.2⟩)⟩⟩
      · cases hr
    · rename_i x hc
      obtain ⟨⟨b, mk⟩, rfl, hr⟩ := Res.bind_eq_ok hr
      obtain ⟨tm2, h5, hr⟩ := Res.bind_eq_ok hr
      cases hr
      exact ⟨some (mk (base + i)), some b, h5, fun x hx => hx, fun h => (notA _ hc rfl h).elim, .inr ⟨hw, .inr (.inr (.inl ⟨b, mk, hc, rfl, rfl, rfl⟩))⟩⟩
    · rename_i n1 n2 n3
      refine anch _ rfl ?_ hr
      cases hc : cls P pc (evalA tm) o.op with
      | pure v => exact (n1 _ hc).elim
      | load f => exact (n2 _ hc).elim
      | alloc x => exact (n3 _ hc).elim
      | heap f => rfl
      | call c => rfl
      | no => rfl
  · subst h2
    obtain ⟨tm2, h5, hr⟩ := Res.bind_eq_ok hr
    cases hr
    refine ⟨some (.tup []), none, h5, ?_, ?_, .inl ⟨hw, rfl, rfl, rfl⟩⟩
    · intro x hx
      split
      · exact List.mem_cons_of_mem _ hx
      · exact hx
    · intro hk
      split
      · exact List.mem_cons_self
      · rename_i hne
        cases hkk : kindO P o.op <;> rw [hkk] at hk <;> first | (cases hk; done) | exact (hne hkk).elim

abbrev Tr := List (Nat × Option AV × Option Blk)

/-- The evaluator's order, told operation by operation. -/
def Along : Tr → Tm → H → Snaps → Nat → Tm → H → Snaps → Nat → Prop
  | [], tm, h, sn, done, tm', h', sn', done' => tm' = tm ∧ h' = h ∧ sn' = sn ∧ done' = done
  | (i, v, bk) :: l, tm, h, sn, done, tm', h', sn', done' => ∃ o tm1 h1 sn1, ops[i]? = some o ∧ bit done i = false ∧ (∀ k, bit ((nth bs i).getD 0) k = true → bit done k = true) ∧ ((kindO P o.op).isAnchor = true → done = (nth bs i).getD 0) ∧
      Out P pc X r fr ops bs base i o tm h sn v bk tm1 h1 sn1 ∧ Along l tm1 h1 sn1 (Nat.lor done (Nat.shiftLeft 1 i)) tm' h' sn' done'

theorem opsD_along {full : Nat} : ∀ {l : List Nat} {tm tm' : Tm} {h h' : H} {sn : Snaps} {done : Nat}, opsD P X pc r fr ops.toList bs base full l tm h sn done = .ok (tm', h') →
    ∃ T sn', Along P pc X r fr ops bs base T tm h sn done tm' h' sn' full := by
  intro l
  induction l with
  | nil =>
    intro tm tm' h h' sn done hr
    simp only [opsD] at hr
    rcases cond_eq hr with ⟨h1, hr⟩ | ⟨_, hr⟩
    · cases hr
      exact ⟨[], sn, rfl, rfl, rfl, (beq_eq h1).symm⟩
    · cases hr
  | cons i l ih =>
    intro tm tm' h h' sn done hr
    simp only [opsD] at hr
    split at hr
    · cases hr
    · rename_i o ho
      rw [nth_eq, Array.getElem?_toList] at ho
      rcases cond_eq hr with ⟨_, hr⟩ | ⟨h1, hr⟩
      · cases hr
      · rcases cond_eq hr with ⟨h2, hr⟩ | ⟨_, hr⟩
        · obtain ⟨⟨tm1, h3, sn1⟩, h4, h5⟩ := Res.bind_eq_ok hr
          obtain ⟨v, bk, h6⟩ := stepD_out P pc X r fr ops bs base h4
          obtain ⟨T, sn', h7⟩ := ih h5
          simp only [Bool.and_eq_true, Bool.or_eq_true, Bool.not_eq_true'] at h2
          refine ⟨(i, v, bk) :: T, sn', o, tm1, h3, sn1, ho, h1, fun k hk => bit_land h2.1 hk, fun hk => ?_, h6, h7⟩
          rcases h2.2 with h8 | h8
          · rw [h8] at hk; cases hk
          · exact beq_eq h8
        · cases hr

variable {P pc X r fr ops bs base}
theorem along_append : ∀ {T1 T2 : Tr} {tm tm' : Tm} {h h' : H} {sn sn' : Snaps} {done done' : Nat}, Along P pc X r fr ops bs base (T1 ++ T2) tm h sn done tm' h' sn' done' →
    ∃ tm1 h1 sn1 done1, Along P pc X r fr ops bs base T1 tm h sn done tm1 h1 sn1 done1 ∧ Along P pc X r fr ops bs base T2 tm1 h1 sn1 done1 tm' h' sn' done' := by
  intro T1
  induction T1 with
  | nil => intro T2 tm tm' h h' sn sn' done done' ha; exact ⟨tm, h, sn, done, ⟨rfl, rfl, rfl, rfl⟩, ha⟩
  | cons x T1 ih =>
    obtain ⟨i, v, bk⟩ := x
    intro T2 tm tm' h h' sn sn' done done' ha
    obtain ⟨o, tm1, h1, sn1, a1, a2, a3, a4, a5, a6⟩ := ha
    obtain ⟨tm2, h2, sn2, done2, b1, b2⟩ := ih a6
    exact ⟨tm2, h2, sn2, done2, ⟨o, tm1, h1, sn1, a1, a2, a3, a4, a5, b1⟩, b2⟩

theorem along_done : ∀ {T : Tr} {tm tm' : Tm} {h h' : H} {sn sn' : Snaps} {done done' : Nat}, Along P pc X r fr ops bs base T tm h sn done tm' h' sn' done' →
    (∀ k, bit done' k = true ↔ bit done k = true ∨ k ∈ T.map (·.1)) ∧ (∀ x ∈ T, bit done x.1 = false) ∧ (T.map (·.1)).Nodup ∧ (∀ x ∈ sn, x ∈ sn') := by
  intro T
  induction T with
  | nil => rintro tm tm' h h' sn sn' done done' ⟨_, _, rfl, rfl⟩; simp
  | cons x T ih =>
    obtain ⟨i, v, bk⟩ := x
    intro tm tm' h h' sn sn' done done' ha
    obtain ⟨o, tm1, h1, sn1, a1, a2, a3, a4, a5, a6⟩ := ha
    obtain ⟨b1, b2, b3, b4⟩ := ih a6
    have hn : i ∉ T.map (·.1) := by
      intro hm
      obtain ⟨x, hx, e⟩ := List.mem_map.1 hm
      have := b2 x hx
      rw [bit_lor, bit_one, e] at this
      simp at this
    refine ⟨?_, ?_, ?_, fun x hx => b4 x (a5.2.1 x hx)⟩
    · intro k
      rw [b1 k, bit_lor, bit_one]
      simp only [Bool.or_eq_true, decide_eq_true_eq, List.map_cons, List.mem_cons]
      constructor
      · rintro ((h | h) | h)
        · exact .inl h
        · exact .inr (.inl h)
        · exact .inr (.inr h)
      · rintro (h | h | h)
        · exact .inl (.inl h)
        · exact .inl (.inr h)
        · exact .inr h
    · intro x hx
      rcases List.mem_cons.1 hx with rfl | hx
      · exact a2
      · have := b2 x hx
        rw [bit_lor] at this
        simp only [Bool.or_eq_false_iff] at this
        exact this.1
    · simp only [List.map_cons, List.nodup_cons]
      exact ⟨hn, b3⟩

theorem lowset {h h1 : H} {o : Oper} {i : Nat} {tm tm1 : Tm} {sn sn1 : Snaps} {v : Option AV} {bk : Option Blk} (ho : Out P pc X r fr ops bs base i o tm h sn v bk tm1 h1 sn1) (hk : (kindO P o.op).isAnchor = false) :
    h1.next = h.next ∧ ∀ id, h1.get id = (if id = base + i then orB bk (h.get id) else h.get id) := by
  have same : ∀ {bk : Option Blk} {h : H} (id : Nat), bk = none → h.get id = (if id = base + i then orB bk (h.get id) else h.get id) := by
    rintro _ h id rfl
    split <;> rfl
  rcases ho.2.2.2 with ⟨_, _, hb, rfl⟩ | ⟨_, ⟨a, _, _, hb, rfl⟩ | ⟨f, a, _, _, _, hb, rfl, _⟩ | ⟨b, mk, _, _, rfl, rfl⟩ | ⟨hk2, _⟩⟩
  · exact ⟨rfl, fun id => same id hb⟩
  · exact ⟨rfl, fun id => same id hb⟩
  · exact ⟨rfl, fun id => same id hb⟩
  · refine ⟨rfl, fun id => ?_⟩
    rw [H.get_set]; rfl
  · rw [hk] at hk2; cases hk2

/-- No anchors: the heap gets the blocks that are made. -/
theorem along_heap {blk : Nat → Option Blk} : ∀ {T : Tr} {tm tm' : Tm} {h h' : H} {sn sn' : Snaps} {done done' : Nat}, Along P pc X r fr ops bs base T tm h sn done tm' h' sn' done' →
    (∀ x ∈ T, ∀ o, ops[x.1]? = some o → (kindO P o.op).isAnchor = false) → (∀ x ∈ T, blk x.1 = x.2.2) → h'.next = h.next ∧
    ∀ id, h'.get id = (if base ≤ id ∧ id - base ∈ T.map (·.1) then orB (blk (id - base)) (h.get id) else h.get id) := by
  intro T
  induction T with
  | nil => rintro tm tm' h h' sn sn' done done' ⟨_, rfl, _, _⟩ _ _; exact ⟨rfl, fun id => by simp⟩
  | cons x T ih =>
    obtain ⟨i, v, bk⟩ := x
    intro tm tm' h h' sn sn' done done' ha hk hb
    have hnd := (along_done ha).2.2.1
    obtain ⟨o, tm1, h1, sn1, a1, a2, a3, a4, a5, a6⟩ := ha
    obtain ⟨n1, g1⟩ := lowset a5 (hk _ List.mem_cons_self o a1)
    obtain ⟨n2, g2⟩ := ih a6 (fun x hx => hk x (List.mem_cons_of_mem _ hx)) (fun x hx => hb x (List.mem_cons_of_mem _ hx))
    refine ⟨n2.trans n1, fun id => ?_⟩
    have hbi : blk i = bk := hb _ List.mem_cons_self
    simp only [List.map_cons, List.nodup_cons] at hnd
    rw [g2 id, g1 id]
    by_cases e : id = base + i
    · subst e
      have e1 : base + i - base = i := by omega
      rw [e1, if_neg (fun h => hnd.1 h.2), if_pos rfl, if_pos ⟨by omega, by simp⟩, hbi]
    · rw [if_neg e]
      by_cases h2 : base ≤ id ∧ id - base ∈ T.map (·.1)
      · rw [if_pos h2, if_pos ⟨h2.1, by simp only [List.map_cons, List.mem_cons]; exact .inr h2.2⟩]
      · rw [if_neg h2, if_neg]
        rintro ⟨h3, h4⟩
        simp only [List.map_cons, List.mem_cons] at h4
        rcases h4 with h4 | h4
        · exact e (by omega)
        · exact h2 ⟨h3, h4⟩

/-- What lies below base is told by the heap here, or ahead of the first anchor. -/
theorem along_low : ∀ {T : Tr} {tm tm' : Tm} {h h' : H} {sn sn' : Snaps} {done done' : Nat}, Along P pc X r fr ops bs base T tm h sn done tm' h' sn' done' →
    (∀ id, id < base → h'.get id = h.get id) ∨ (∃ x ∈ T, ∃ o, ops[x.1]? = some o ∧ (kindO P o.op).isAnchor = true ∧ ∃ ha, (x.1, ha) ∈ sn' ∧ ∀ id, id < base → ha.get id = h.get id) := by
  intro T
  induction T with
  | nil => rintro tm tm' h h' sn sn' done done' ⟨_, rfl, _, _⟩; exact .inl fun _ _ => rfl
  | cons x T ih =>
    obtain ⟨i, v, bk⟩ := x
    intro tm tm' h h' sn sn' done done' ha
    obtain ⟨o, tm1, h1, sn1, a1, a2, a3, a4, a5, a6⟩ := ha
    cases hk : (kindO P o.op).isAnchor with
    | true => exact .inr ⟨_, List.mem_cons_self, o, a1, hk, h, (along_done a6).2.2.2 _ (a5.2.2.1 hk), fun _ _ => rfl⟩
    | false =>
      have g1 := (lowset a5 hk).2
      have low : ∀ id, id < base → h1.get id = h.get id := fun id hid => by rw [g1 id, if_neg (by omega)]
      rcases ih a6 with h2 | ⟨x, hx, o', b1, b2, ha', b3, b4⟩
      · exact .inl fun id hid => (h2 id hid).trans (low id hid)
      · exact .inr ⟨x, List.mem_cons_of_mem _ hx, o', b1, b2, ha', b3, fun id hid => (b4 id hid).trans (low id hid)⟩

end
end Go.Ev

/- Regions whose order is open, any order; no theorem of the program yet; no conditions. -/
namespace Go.Ev

/-! ### Values told equal are equal -/
theorem sesBeq_eq : ∀ {a b : List SE}, sesBeq a b = true → a = b := by
  intro a
  induction a with
  | nil => intro b h; cases b <;> first | rfl | cases h
  | cons x a ih =>
    intro b h
    cases b with
    | nil => cases h
    | cons y b =>
      simp only [sesBeq, Bool.and_eq_true] at h
      rw [SE.beq_eq h.1, ih h.2]

mutual
theorem AV.beq_eq : ∀ {a b : AV}, a.beq b = true → a = b
  | .int k a, b, h => by cases b <;> simp only [AV.beq, Bool.and_eq_true] at h <;> first | (rw [ikBeq_eq h.1, SE.beq_eq h.2]; done) | cases h
  | .bool a, b, h => by cases b <;> simp only [AV.beq] at h <;> first | (rw [SB.beq_eq h]; done) | cases h
  | .str n a, b, h => by cases b <;> simp only [AV.beq, Bool.and_eq_true] at h <;> first | (rw [Ev.beq_eq h.1, sesBeq_eq h.2]; done) | cases h
  | .nilp, b, h => by cases b <;> simp only [AV.beq] at h <;> first | rfl | cases h
  | .nils, b, h => by cases b <;> simp only [AV.beq] at h <;> first | rfl | cases h
  | .emp, b, h => by cases b <;> simp only [AV.beq] at h <;> first | rfl | cases h
  | .slv .., b, h => by cases b <;> simp only [AV.beq] at h <;> cases h
  | .nilm, b, h => by cases b <;> simp only [AV.beq] at h <;> first | rfl | cases h
  | .nilf, b, h => by cases b <;> simp only [AV.beq] at h <;> first | rfl | cases h
  | .nili, b, h => by cases b <;> simp only [AV.beq] at h <;> first | rfl | cases h
  | .ptr a b, c, h => by cases c <;> simp only [AV.beq, Bool.and_eq_true] at h <;> first | (rw [Ev.beq_eq h.1, Ev.beq_eq h.2]; done) | cases h
  | .slc a b c d e f, v, h => by
    cases v <;> simp only [AV.beq, Bool.and_eq_true] at h <;> first
      | (obtain ⟨⟨⟨⟨⟨h1, h2⟩, h3⟩, h4⟩, h5⟩, h6⟩ := h; rw [Ev.beq_eq h1, Ev.beq_eq h2, Ev.beq_eq h3, eq_of_beq h4, Ev.beq_eq h5, Ev.beq_eq h6]; done)
      | cases h
  | .ptrv a b c d e, v, h => by
    cases v <;> simp only [AV.beq, Bool.and_eq_true] at h <;> first
      | (obtain ⟨h1, h2, h3, h4, h5⟩ := h; rw [Ev.beq_eq h1, Ev.beq_eq h2, Ev.beq_eq h3, Ev.beq_eq h4, SE.beq_eq h5]; done)
      | cases h
  | .pick a e, b, h => by cases b <;> simp only [AV.beq, Bool.and_eq_true] at h <;> first | (rw [SE.beq_eq h.1, avsBeq_eq h.2]; done) | cases h
  | .map a, b, h => by cases b <;> simp only [AV.beq] at h <;> first | (rw [Ev.beq_eq h]; done) | cases h
  | .func fn a b, v, h => by
    cases fn with
    | func f =>
      cases v with
      | func g c d =>
        cases g with
        | func g =>
          simp only [AV.beq, Bool.and_eq_true] at h
          rw [Ev.beq_eq h.1.1, avsBeq_eq h.1.2, avsBeq_eq h.2]
        | _ => simp [AV.beq] at h
      | _ => simp [AV.beq] at h
    | yield f =>
      cases v with
      | func g c d =>
        cases g with
        | yield g =>
          simp only [AV.beq, Bool.and_eq_true] at h
          rw [Ev.beq_eq h.1.1, avsBeq_eq h.1.2, avsBeq_eq h.2]
        | _ => simp [AV.beq] at h
      | _ => simp [AV.beq] at h
    | _ => simp [AV.beq] at h
  | .iface t v, b, h => by cases b <;> simp only [AV.beq, Bool.and_eq_true] at h <;> first | (rw [Ev.beq_eq h.1, AV.beq_eq h.2]; done) | cases h
  | .agg a, b, h => by cases b <;> simp only [AV.beq] at h <;> first | (rw [avsBeq_eq h]; done) | cases h
  | .tup a, b, h => by cases b <;> simp only [AV.beq] at h <;> first | (rw [avsBeq_eq h]; done) | cases h
theorem avsBeq_eq : ∀ {a b : List AV}, avsBeq a b = true → a = b
  | [], b, h => by cases b <;> simp only [avsBeq] at h <;> first | rfl | cases h
  | x :: a, b, h => by
    cases b with
    | nil => simp only [avsBeq] at h; cases h
    | cons y b =>
      simp only [avsBeq, Bool.and_eq_true] at h
      rw [AV.beq_eq h.1, avsBeq_eq h.2]
end

section
variable {ρ : Env} {μ : Mu} {P : Program} {pc : PC} {w : World} {X : Hooks} {r : Rec}

/-- The temporaries that an operation looks at are told. -/
def LkR (ρ : Env) (μ : Mu) (ops : Array Oper) (o : Oper) (tm : Tm) (tmps : Array Value) : Prop := ∀ t ∈ looks ops.toList o, ∀ v, tm.get t = some v → ∃ x, tmps[t]? = some x ∧ VR ρ μ v x

theorem LkR_ea {ops : Array Oper} {o : Oper} {tm : Tm} {a : Act} (hm : LkR ρ μ ops o tm a.tmps) (hg : ∀ k, k < 64 → ∃ z, μ k = some (k, 0, z)) : EaR ρ μ o.op (evalA tm) a.eval := by
  intro x hx v h
  cases x with
  | tmp t =>
    obtain ⟨x, h1, h2⟩ := hm t (by
      unfold looks
      exact List.mem_append_left _ (List.mem_filterMap.2 ⟨.tmp t, by simpa using hx, rfl⟩)) v (Res.ofO_eq_ok h)
    simp only [Act.eval, Array.getD_eq_getD_getElem?, h1, Option.getD_some]
    exact h2
  | const c => exact ofValue_spec (Res.ofO_eq_ok h)
  | global g =>
    have h0 : (Bool.rec (.fail "a global") (.ok (.ptr g 0)) (Nat.blt g 64) : Res AV) = .ok v := h
    cases hb : Nat.blt g 64 with
    | true =>
      rw [hb] at h0
      injection h0 with h0
      subst h0
      obtain ⟨z, hz⟩ := hg g (by simpa using hb)
      rw [VR]
      exact ⟨_, hz, rfl⟩
    | false => rw [hb] at h0; cases h0
  | func f =>
    have h0 : Res.ok (AV.func (.func f) [] []) = .ok v := h
    injection h0 with h0
    subst h0
    rw [VR]
    exact ⟨_, _, _, rfl, rfl, VRs_nil.2 rfl, VRs_nil.2 rfl⟩

theorem LkR_want (hp : pc.holds ρ) {ops : Array Oper} {tm : Tm} {tmps : Array Value} {o : Oper} {b : Bool} (hm : LkR ρ μ ops o tm tmps) (h : wantA pc ops.toList tm o = .ok b) : Region.wanted o (yielded ops tmps) = b := by
  cases hg : o.guard with
  | none =>
    have h0 : (Option.rec (motive := fun _ => PC → List Oper → Tm → Res Bool) wNone wGuard o.guard pc ops.toList tm) = .ok b := h
    rw [hg] at h0
    have h1 : Res.ok true = .ok b := h0
    cases h1
    simp [Region.wanted, hg]
  | some g =>
    have h0 : (Option.rec (motive := fun _ => PC → List Oper → Tm → Res Bool) wNone wGuard o.guard pc ops.toList tm) = .ok b := h
    rw [hg] at h0
    have h1 : wGuard g pc ops.toList tm = .ok b := h0
    unfold wGuard at h1
    split at h1
    · cases h1
    · rename_i q hq
      split at h1
      · cases h1
      · rename_i d hd
        split at h1
        · rename_i c hc
          obtain ⟨t, h2, h3⟩ := Res.bind_eq_ok h1
          cases h3
          obtain ⟨gi, gb⟩ := g
          simp only at hq
          obtain ⟨x, h4, h5⟩ := hm d (by
            unfold looks
            refine List.mem_append_right _ ?_
            rw [hg]
            simp only [hq, hd]
            simp) _ hc
          rw [VR, decR_spec hp h2] at h5
          subst h5
          rw [nth_eq, Array.getElem?_toList] at hq
          simp [Region.wanted, hg, yielded, hq, hd, h4]
        · rename_i hc
          cases h1
          obtain ⟨gi, gb⟩ := g
          simp only at hq
          obtain ⟨x, h4, h5⟩ := hm d (by
            unfold looks
            refine List.mem_append_right _ ?_
            rw [hg]
            simp only [hq, hd]
            simp) _ hc
          rw [VR] at h5
          obtain ⟨ys, rfl, _⟩ := h5
          rw [nth_eq, Array.getElem?_toList] at hq
          simp [Region.wanted, hg, yielded, hq, hd, h4]
        · cases h1

theorem looks_plain {ops : Array Oper} {o : Oper} {t : Nat} (h : has (looks ops.toList o) t = false) : t ∉ looks ops.toList o := has_false h

/-- Of temporaries: as the last writer in D has left them. -/
noncomputable def tmD (ops : Array Oper) (val : Nat → Option AV) (tm0 : Tm) (D : Nat → Bool) (t : Nat) : Option AV :=
  match lw ops D t ops.size with
  | some j => val j
  | none => tm0.get t

variable {ops : Array Oper} {bs : List Nat} {val : Nat → Option AV} {tm0 : Tm}

theorem dst_of {i : Nat} {o : Oper} (ho : ops[i]? = some o) : dstOf ops i = o.dst := by simp [dstOf, ho]

/-- Writers of a temporary that i looks at: those of D, if i is next. -/
theorem read_same (F : Form ops bs) {i : Nat} {o : Oper} (ho : ops[i]? = some o) {D : Nat → Bool} (hD : D i = false) (hB : ∀ k, bit ((nth bs i).getD 0) k = true → D k = true)
    (hcl : ∀ j k, j < ops.size → D j = true → bit ((nth bs j).getD 0) k = true → D k = true) {t : Nat} (ht : t ∈ looks ops.toList o) :
    lw ops D t ops.size = lw ops (fun k => bit ((nth bs i).getD 0) k) t ops.size := by
  refine lw_congr fun j hj hd => ?_
  have hjo : ops[j]? = some ops[j] := Array.getElem?_eq_getElem hj
  have hd' : ops[j].dst = some t := by rw [← dst_of hjo]; exact hd
  cases hb : bit ((nth bs i).getD 0) j with
  | true => exact hB j hb
  | false =>
    cases hDj : D j with
    | false => rfl
    | true =>
      exfalso
      have hi : i < ops.size := (Array.getElem?_eq_some_iff.1 ho).1
      rcases Nat.lt_trichotomy j i with h | h | h
      · exact looks_plain ((F.apart j i _ o hjo ho h hb).1 t hd').1 ht
      · subst h; rw [hD] at hDj; cases hDj
      · cases hb2 : bit ((nth bs j).getD 0) i with
        | true => have := hcl j i hj hDj hb2; rw [hD] at this; cases this
        | false => exact looks_plain ((F.apart i j o _ ho hjo h hb2).2 t hd') ht

theorem tmD_put (F : Form ops bs) {i : Nat} {o : Oper} (ho : ops[i]? = some o) {D E : Nat → Bool} (hE : ∀ j, E j = (D j || decide (j = i))) (hD : D i = false)
    (hcl : ∀ j k, j < ops.size → D j = true → bit ((nth bs j).getD 0) k = true → D k = true) (t : Nat) :
    tmD ops val tm0 E t = if o.dst = some t then val i else tmD ops val tm0 D t := by
  have hi : i < ops.size := (Array.getElem?_eq_some_iff.1 ho).1
  have := lw_add (ops := ops) (t := t) hE hD (n := ops.size) (by
    intro j hij hj hDj d hd hd2
    have hjo : ops[j]? = some ops[j] := Array.getElem?_eq_getElem hj
    rw [dst_of ho] at hd
    rw [dst_of hjo] at hd2
    cases hb2 : bit ((nth bs j).getD 0) i with
    | true => have := hcl j i hj hDj hb2; rw [hD] at this; cases this
    | false => exact ((F.apart i j o _ ho hjo hij hb2).1 d hd).2 hd2)
  unfold tmD
  rw [this, dst_of ho]
  by_cases h : o.dst = some t
  · rw [if_pos ⟨hi, h⟩, if_pos h]
  · rw [if_neg (fun hh => h hh.2), if_neg h]

theorem putA_get {nt : Nat} {tm tm1 : Tm} {dst : Option Nat} {v : Option AV} (h : putA nt tm dst v = .ok tm1) (t : Nat) : tm1.get t = (if dst = some t then v else tm.get t) ∧ tm1.mask = tm.mask := by
  cases dst with
  | none => have h0 : Res.ok tm = .ok tm1 := h; cases h0; simp
  | some d =>
    have h0 : (Bool.rec (.fail "a temporary beyond the frame's") (.ok (tm.put d v)) (Nat.blt d nt) : Res Tm) = .ok tm1 := h
    cases hb : Nat.blt d nt with
    | false => rw [hb] at h0; cases h0
    | true =>
      rw [hb] at h0
      injection h0 with h0
      subst h0
      refine ⟨?_, by unfold Tm.put; cases bit tm.mask d <;> rfl⟩
      rw [Tm.get_put]
      by_cases e : t = d
      · subst e; simp
      · rw [if_neg e, if_neg (fun h => e (Option.some.inj h).symm)]

theorem putA_ok {nt : Nat} {tm tm1 : Tm} {dst : Option Nat} {v : Option AV} (h : putA nt tm dst v = .ok tm1) : ∀ d, dst = some d → d < nt := by
  rintro d rfl
  have h0 : (Bool.rec (.fail "a temporary beyond the frame's") (.ok (tm.put d v)) (Nat.blt d nt) : Res Tm) = .ok tm1 := h
  cases hb : Nat.blt d nt with
  | false => rw [hb] at h0; cases h0
  | true => simpa using hb

/-- The evaluator's own temporaries. -/
theorem along_tm (F : Form ops bs) {fr : Fr} {base : Nat} : ∀ {T : Tr} {tm tm' : Tm} {h h' : H} {sn sn' : Snaps} {done done' : Nat}, Along P pc X r fr ops bs base T tm h sn done tm' h' sn' done' → (∀ x ∈ T, val x.1 = x.2.1) →
    (∀ t, tm.get t = tmD ops val tm0 (bit done) t) → (∀ j k, bit done j = true → bit ((nth bs j).getD 0) k = true → bit done k = true) →
    (∀ t, tm'.get t = tmD ops val tm0 (bit done') t) ∧ (∀ j k, bit done' j = true → bit ((nth bs j).getD 0) k = true → bit done' k = true) ∧ tm'.mask = tm.mask := by
  intro T
  induction T with
  | nil => rintro tm tm' h h' sn sn' done done' ⟨rfl, _, _, rfl⟩ _ h1 h2; exact ⟨h1, h2, rfl⟩
  | cons x T ih =>
    obtain ⟨i, v, bk⟩ := x
    intro tm tm' h h' sn sn' done done' ha hv h1 h2
    obtain ⟨o, tm1, h3, sn1, a1, a2, a3, a4, a5, a6⟩ := ha
    have hE : ∀ j, bit (Nat.lor done (Nat.shiftLeft 1 i)) j = (bit done j || decide (j = i)) := fun j => by rw [bit_lor, bit_one]
    have hv0 : val i = v := hv _ List.mem_cons_self
    obtain ⟨b1, b2, b3⟩ := ih a6 (fun x hx => hv x (List.mem_cons_of_mem _ hx)) (by
      intro t
      rw [(putA_get a5.1 t).1, tmD_put F a1 hE a2 (fun j k _ => h2 j k) t, hv0, h1 t]) (by
      intro j k hj hk
      rw [hE] at hj ⊢
      simp only [Bool.or_eq_true, decide_eq_true_eq] at hj ⊢
      rcases hj with hj | rfl
      · exact .inl (h2 j k hj hk)
      · exact .inl (a3 k hk))
    exact ⟨b1, b2, b3.trans (putA_get a5.1 0).2⟩

end
end Go.Ev

/- Regions whose order is open, the simulation; no theorem of the program yet; no conditions. -/
namespace Go.Ev
section
variable {ρ : Env} {P : Program} {pc : PC} {X : Hooks} {r : Rec} {fr : Fr} {ro : Option Nat} {ops : Array Oper} {bs : List Nat} {base : Nat} {ms : List Nat} {val : Nat → Option AV} {blk : Nat → Option Blk} {tm0 tmE : Tm} {hE : H} {snE : Snaps} {full : Nat}
variable {μ0 : Mu} {g0 : G} {w0 : World} {T : Tr}

/-- The heap of the evaluator's beginning, with the blocks that have been made ahead of time. -/
noncomputable def gOf (blk : Nat → Option Blk) (base : Nat) (h : H) (Ts : Tr) (D : Nat → Bool) : G := fun id => if base ≤ id ∧ D (id - base) = true ∧ id - base ∈ Ts.map (·.1) then blk (id - base) else h.get id

structure Inv (ρ : Env) (P : Program) (pc : PC) (X : Hooks) (r : Rec) (fr : Fr) (ops : Array Oper) (bs : List Nat) (base : Nat) (ms : List Nat) (val : Nat → Option AV) (blk : Nat → Option Blk) (tm0 tmE : Tm) (hE : H) (snE : Snaps) (full : Nat)
    (μ0 : Mu) (g0 : G) (w0 : World) (T : Tr) (D : Nat → Bool) (μ : Mu) (a : Act) (w : World) (Ts : Tr) (tm : Tm) (h : H) (sn : Snaps) (done : Nat) : Prop where
  al : Along P pc X r fr ops bs base Ts tm h sn done tmE hE snE full
  sub : ∀ x ∈ Ts, x ∈ T
  tmc : ∀ t, tm.get t = tmD ops val tm0 (bit done) t
  clc : ∀ j k, bit done j = true → bit ((nth bs j).getD 0) k = true → bit done k = true
  dD : ∀ i, bit done i = true → D i = true
  anc : ∀ x ∈ Ts, ∀ o, ops[x.1]? = some o → D x.1 = true → (kindO P o.op).isAnchor = false
  cl : ∀ j k, j < ops.size → D j = true → bit ((nth bs j).getD 0) k = true → D k = true
  rel : Rel ρ μ (gOf blk base h Ts D) h.next w
  nx : base + ops.size ≤ h.next
  non : ∀ i, i < ops.size → D i = false → μ (base + i) = none
  hn : ∀ x ∈ Ts, h.get (base + x.1) = none
  tms : ∀ t v, tmD ops val tm0 D t = some v → ∃ x, a.tmps[t]? = some x ∧ VR ρ μ v x
  size : a.tmps.size = fr.nt
  dfr : DR μ ms a.defers
  stp : Stp μ0 g0 base w0 μ (gOf blk base h Ts D) w
  all : ∀ i, i < ops.size → bit done i = true ∨ i ∈ Ts.map (·.1)

theorem tms_put (F : Form ops bs) {μ μ' : Mu} {a : Act} {i : Nat} {o : Oper} (ho : ops[i]? = some o) {D E : Nat → Bool} (hE : ∀ j, E j = (D j || decide (j = i))) (hD : D i = false)
    (hcl : ∀ j k, j < ops.size → D j = true → bit ((nth bs j).getD 0) k = true → D k = true) (hle : μ.le μ')
    (tms : ∀ t v, tmD ops val tm0 D t = some v → ∃ x, a.tmps[t]? = some x ∧ VR ρ μ v x) (hsz : ∀ d, o.dst = some d → d < a.tmps.size) {x : Value} (hx : ∀ b, val i = some b → VR ρ μ' b x) :
    ∀ t v, tmD ops val tm0 E t = some v → ∃ y, (a.put o.dst x).tmps[t]? = some y ∧ VR ρ μ' v y := by
  intro t v ht
  rw [tmD_put F ho hE hD hcl t] at ht
  by_cases h : o.dst = some t
  · rw [if_pos h] at ht
    rw [h]
    exact ⟨x, by simp only [Act.put]; rw [Array.getElem?_setIfInBounds_self_of_lt (hsz t h)], hx v ht⟩
  · rw [if_neg h] at ht
    obtain ⟨y, h1, h2⟩ := tms t v ht
    refine ⟨y, ?_, VR_mono hle h2⟩
    cases hd : o.dst with
    | none => exact h1
    | some d =>
      simp only [Act.put]
      rw [Array.getElem?_setIfInBounds_ne (fun e => h (by rw [hd, e]))]
      exact h1

theorem put_size (a : Act) (d : Option Nat) (x : Value) : (a.put d x).tmps.size = a.tmps.size ∧ (a.put d x).defers = a.defers := by
  cases d <;> simp [Act.put]

/-- One more of the operations that are no anchors. -/
theorem Inv.more (F : Form ops bs) {D E : Nat → Bool} {μ μ' : Mu} {a : Act} {w w' : World} {Ts : Tr} {tm : Tm} {h : H} {sn : Snaps} {done i : Nat} {o : Oper} {x : Value}
    (I : Inv ρ P pc X r fr ops bs base ms val blk tm0 tmE hE snE full μ0 g0 w0 T D μ a w Ts tm h sn done) (ho : ops[i]? = some o) (hEq : ∀ j, E j = (D j || decide (j = i))) (hD : D i = false)
    (hB : ∀ k, bit ((nth bs i).getD 0) k = true → D k = true) (hk : (kindO P o.op).isAnchor = false) (hsz : ∀ d, o.dst = some d → d < fr.nt) (hle : μ.le μ')
    (hrel : Rel ρ μ' (gOf blk base h Ts E) h.next w') (hstp : Stp μ0 g0 base w0 μ' (gOf blk base h Ts E) w') (hnon : ∀ j, j ≠ i → μ' (base + j) = μ (base + j)) (hx : ∀ b, val i = some b → VR ρ μ' b x) :
    Inv ρ P pc X r fr ops bs base ms val blk tm0 tmE hE snE full μ0 g0 w0 T E μ' (a.put o.dst x) w' Ts tm h sn done where
  al := I.al
  sub := I.sub
  tmc := I.tmc
  clc := I.clc
  dD := fun j hj => by rw [hEq, I.dD j hj]; rfl
  anc := fun y hy o' ho' hd => by
    rw [hEq] at hd
    by_cases e : y.1 = i
    · rw [e, ho] at ho'; cases ho'; exact hk
    · simp only [e, decide_false, Bool.or_false] at hd
      exact I.anc y hy o' ho' hd
  cl := fun j k hj hd hb => by
    rw [hEq] at hd ⊢
    by_cases e : j = i
    · subst e; rw [hB k hb]; rfl
    · simp only [e, decide_false, Bool.or_false] at hd
      rw [I.cl j k hj hd hb]; rfl
  rel := hrel
  nx := I.nx
  non := fun j hj hd => by
    rw [hEq, Bool.or_eq_false_iff] at hd
    rw [hnon j (by simpa using hd.2)]
    exact I.non j hj hd.1
  hn := I.hn
  tms := tms_put F ho hEq hD I.cl hle I.tms (fun d hd => by rw [I.size]; exact hsz d hd) hx
  size := by rw [(put_size a o.dst x).1]; exact I.size
  dfr := by rw [(put_size a o.dst x).2]; exact DR_mono hle I.dfr
  stp := hstp
  all := I.all

theorem gOf_none {h : H} {Ts : Tr} {D E : Nat → Bool} {i : Nat} (hEq : ∀ j, E j = (D j || decide (j = i))) (hb : blk i = none) (hg : (gOf blk base h Ts D) (base + i) = none) (hD : D i = false) : gOf blk base h Ts E = gOf blk base h Ts D := by
  funext id
  unfold gOf at hg ⊢
  by_cases e : id = base + i
  · subst e
    have e1 : base + i - base = i := by omega
    simp only [e1, hD, Bool.false_eq_true, false_and, and_false, if_false] at hg ⊢
    rw [hb, hg]
    split <;> rfl
  · by_cases hbase : base ≤ id
    · have : ¬ id - base = i := by omega
      simp only [hEq, this, decide_false, Bool.or_false]
    · simp only [hbase, false_and, if_false]

theorem gOf_some {h : H} {Ts : Tr} {D E : Nat → Bool} {i : Nat} {b : Blk} (hEq : ∀ j, E j = (D j || decide (j = i))) (hb : blk i = some b) (hm : i ∈ Ts.map (·.1)) : gOf blk base h Ts E = upd (gOf blk base h Ts D) (base + i) (some b) := by
  funext id
  unfold gOf upd
  by_cases e : id = base + i
  · subst e
    have e1 : base + i - base = i := by omega
    rw [if_pos rfl, if_pos ⟨by omega, by rw [hEq, e1]; simp, by rw [e1]; exact hm⟩, e1, hb]
  · rw [if_neg e]
    by_cases hbase : base ≤ id
    · have : ¬ id - base = i := by omega
      simp only [hEq, this, decide_false, Bool.or_false]
    · simp only [hbase, false_and, if_false]

theorem Stp.beside {μ μ1 μ' : Mu} {g x g' y : G} {nx nx0 : Nat} {w w1 w' : World} {gs : G} (S0 : Stp μ gs nx0 w μ1 x w1) (hgx : ∀ id b, g id = some b → x id = some b) (hxm : ∀ id b, x id = some b → ∃ p, μ1 id = some p)
    (S : Stp μ1 g nx w1 μ' g' w') (hy : ∀ id b, y id = some b → g' id = some b ∨ x id = some b) (hn : nx0 ≤ nx) : Stp μ gs nx0 w μ' y w' := by
  refine Stp.trans S0 (nx1 := nx) ⟨S.le, S.new, ?_, S.size, S.tape, S.os, S.output, ?_, ?_, S.fz⟩ hn
  · intro id b h
    rcases hy id b h with h | h
    · rcases S.ids id b h with ⟨b', h⟩ | h
      · exact .inl ⟨b', hgx _ _ h⟩
      · exact .inr h
    · exact .inl ⟨b, h⟩
  · intro b hb hno
    exact S.frame b hb fun id bk p h1 h2 h3 => hno id bk p (hgx _ _ h1) h2 h3
  · intro id bk p h hp
    rcases hy id bk h with h | h
    · rcases S.own id bk p h hp with h | ⟨id', bk', p', h1, h2, h3, h4⟩
      · exact .inl h
      · exact .inr ⟨id', bk', p', hgx _ _ h1, h2, h3, h4⟩
    · obtain ⟨q, hq⟩ := hxm id bk h
      have := S.le _ _ hq
      rw [hp] at this
      cases this
      exact .inr ⟨id, bk, p, h, hq, rfl, fun h => h⟩

/-! ### What is ready -/
def dOf (listed : Array Bool) (i : Nat) : Bool := listed.getD i false

theorem ready_spec {listed : Array Bool} (hs : listed.size = ops.size) {i : Nat} : i ∈ Region.ready .any ops listed ↔ ∃ o, ops[i]? = some o ∧ dOf listed i = false ∧ ∀ j ∈ ons o, dOf listed j = true := by
  unfold Region.ready
  rw [List.mem_filter, List.mem_range]
  have hget : ∀ {i}, i < ops.size → listed.getD i true = dOf listed i := by
    intro i hi
    unfold dOf
    simp [Array.getD_eq_getD_getElem?, Array.getElem?_eq_getElem (show i < listed.size by omega)]
  have hons : ∀ {o : Oper}, (o.after.all fun e => !Region.binds .any e || listed.getD e.on false) = true ↔ ∀ j ∈ ons o, dOf listed j = true := by
    intro o
    unfold ons
    rw [Array.all_eq_true']
    constructor
    · intro h j hj
      obtain ⟨e, he, h2⟩ := List.mem_filterMap.1 hj
      split at h2
      · rename_i hb
        cases h2
        have := h e (by simpa using he)
        simpa [hb, dOf] using this
      · cases h2
    · intro h e he
      cases hb : Region.binds .any e with
      | false => rfl
      | true =>
        simp only [Bool.not_true, Bool.false_or]
        exact h e.on (List.mem_filterMap.2 ⟨e, by simpa using he, by rw [hb]; rfl⟩)
  constructor
  · rintro ⟨hi, h⟩
    simp only [Bool.and_eq_true, Bool.not_eq_true'] at h
    rw [hget hi] at h
    have ho : ops[i]? = some ops[i] := Array.getElem?_eq_getElem hi
    rw [ho] at h
    exact ⟨ops[i], ho, h.1, hons.1 (by simpa using h.2)⟩
  · rintro ⟨o, ho, h1, h2⟩
    have hi := (Array.getElem?_eq_some_iff.1 ho).1
    refine ⟨hi, ?_⟩
    simp only [Bool.and_eq_true, Bool.not_eq_true']
    rw [hget hi, ho]
    exact ⟨h1, by simpa using hons.2 h2⟩

theorem ready_nil (F : Form ops bs) {listed : Array Bool} (hs : listed.size = ops.size) (h : Region.ready .any ops listed = []) : ∀ i, i < ops.size → dOf listed i = true := by
  intro i
  induction i using Nat.strongRecOn with
  | _ i ih =>
    intro hi
    cases hd : dOf listed i with
    | true => rfl
    | false =>
      exfalso
      have ho : ops[i]? = some ops[i] := Array.getElem?_eq_getElem hi
      have : i ∈ Region.ready .any ops listed := (ready_spec hs).2 ⟨_, ho, hd, fun j hj => by
        have hlt := F.low i _ ho j hj
        exact ih j hlt (by omega)⟩
      rw [h] at this
      cases this

theorem dOf_set {listed : Array Bool} {i : Nat} (hi : i < listed.size) (j : Nat) : dOf (listed.setIfInBounds i true) j = (dOf listed j || decide (j = i)) := by
  unfold dOf
  simp only [Array.getD_eq_getD_getElem?]
  by_cases e : j = i
  · subst e; rw [Array.getElem?_setIfInBounds_self_of_lt hi]; simp
  · rw [Array.getElem?_setIfInBounds_ne (fun h => e h.symm)]; simp [e]

end
end Go.Ev
