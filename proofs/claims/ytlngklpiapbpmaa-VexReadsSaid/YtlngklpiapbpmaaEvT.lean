/- Regions whose order is open: whatever order the machine draws, it comes to what the evaluator tells; no theorem of the program yet; no conditions.
   The evaluator goes in one order (canon). Of any other: D are the operations done; the anchors among them are a beginning of the evaluator's; the state is the evaluator's behind the last of these anchors,
   with the blocks made ahead of time laid beside (gOf) and each temporary as its last writer in D has left it (tmD). -/
import Derived.Test.YtlngklpiapbpmaaEvS
set_option linter.unusedSimpArgs false
set_option linter.unusedVariables false
namespace Go.Ev

/-! ### Bits -/
theorem bit_eq (m i : Nat) : bit m i = m.testBit i := by
  unfold bit Nat.testBit
  have h : Nat.land (Nat.shiftRight m i) 1 = (m >>> i) % 2 := land_one _
  rw [h, Nat.and_comm, Nat.and_one_is_mod]
  rcases Nat.mod_two_eq_zero_or_one (m >>> i) with e | e <;> rw [e] <;> rfl

theorem bit_zero (i : Nat) : bit 0 i = false := by rw [bit_eq]; simp
theorem bit_lor (a b i : Nat) : bit (Nat.lor a b) i = (bit a i || bit b i) := by
  simp only [bit_eq]; exact Nat.testBit_or a b i
theorem bit_one (j i : Nat) : bit (Nat.shiftLeft 1 j) i = decide (i = j) := by
  rw [bit_eq]
  show (1 <<< j).testBit i = _
  rw [Nat.testBit_shiftLeft]
  by_cases h : i = j
  · subst h; simp
  · by_cases h' : j ≤ i
    · have : i - j ≠ 0 := by omega
      obtain ⟨k, hk⟩ : ∃ k, i - j = k + 1 := ⟨i - j - 1, by omega⟩
      simp [h, h', hk, Nat.testBit_succ]
    · simp [h, h']
theorem bit_land {a b : Nat} (h : Nat.beq (Nat.land a b) a = true) {i : Nat} (hi : bit a i = true) : bit b i = true := by
  have h1 := beq_eq h
  rw [← h1] at hi
  rw [bit_eq] at hi ⊢
  have : (a &&& b).testBit i = true := hi
  rw [Nat.testBit_and, Bool.and_eq_true] at this
  exact this.2
theorem bit_full (n i : Nat) : bit (Nat.shiftLeft 1 n - 1) i = decide (i < n) := by
  rw [bit_eq]
  have : Nat.shiftLeft 1 n = 2 ^ n := by show 1 <<< n = _; rw [Nat.shiftLeft_eq, Nat.one_mul]
  rw [this, Nat.testBit_two_pow_sub_one]

theorem bit_orAll (bs : List Nat) (k : Nat) : ∀ (l : List Nat), bit (orAll bs l) k = true ↔ ∃ j ∈ l, k = j ∨ bit ((nth bs j).getD 0) k = true := by
  intro l
  induction l with
  | nil => simp [orAll, bit_zero]
  | cons i l ih =>
    simp only [orAll, bit_lor, bit_one, Bool.or_eq_true, decide_eq_true_eq, List.mem_cons, ih]
    constructor
    · rintro ((h | h) | ⟨j, h1, h2⟩)
      · exact ⟨i, .inl rfl, .inl h⟩
      · exact ⟨i, .inl rfl, .inr h⟩
      · exact ⟨j, .inr h1, h2⟩
    · rintro ⟨j, rfl | h1, h2⟩
      · exact .inl h2
      · exact .inr ⟨j, h1, h2⟩

/-! ### Kinds -/
theorem kind_cls {P : Program} {pc : PC} {ea : Operand → Res AV} {op : Op} : kindC (cls P pc ea op) = kindO P op := by
  unfold kindO
  cases op with
  | call c =>
    show kindC (clsCall P pc ea c) = kindC (clsCall P [] noEa c)
    unfold clsCall
    split
    · unfold clsB; split <;> rfl
    · rfl
  | convert s d x =>
    show kindC (clsConv P pc ea s d x) = kindC (clsConv P [] noEa s d x)
    unfold clsConv
    cases plainConv P s d <;> rfl
  | next it str => cases str <;> rfl
  | _ => rfl

/-! ### The form -/
structure Form (ops : Array Oper) (bs : List Nat) : Prop where
  low : ∀ i o, ops[i]? = some o → ∀ j ∈ ons o, j < i
  eqn : ∀ i o, ops[i]? = some o → (nth bs i).getD 0 = orAll bs (ons o)
  apart : ∀ i j x y, ops[i]? = some x → ops[j]? = some y → i < j → bit ((nth bs j).getD 0) i = false →
    (∀ d, x.dst = some d → has (looks ops.toList y) d = false ∧ y.dst ≠ some d) ∧ (∀ e, y.dst = some e → has (looks ops.toList x) e = false)

theorem apartAll_spec {ops : List Oper} {y : Oper} {by_ : Nat} : ∀ {l : List Oper} {k j : Nat}, apartAll ops y by_ l k j = true → ∀ i x, l[i]? = some x → k + i < j → bit by_ (k + i) = false →
    (∀ d, x.dst = some d → has (looks ops y) d = false ∧ y.dst ≠ some d) ∧ (∀ e, y.dst = some e → has (looks ops x) e = false) := by
  intro l
  induction l with
  | nil => intro k j _ i x hx; simp at hx
  | cons z l ih =>
    intro k j h i x hx hk hb
    simp only [apartAll, Bool.or_eq_true, Bool.and_eq_true] at h
    rcases h with h | ⟨h1, h2⟩
    · have : j ≤ k := by simpa using h
      omega
    · cases i with
      | zero =>
        simp at hx
        subst hx
        simp only [Nat.add_zero] at hb
        simp only [apartO, hb, Bool.false_or, Bool.and_eq_true] at h1
        obtain ⟨h3, h4⟩ := h1
        constructor
        · intro d hd
          rw [hd] at h3
          simp only [Bool.and_eq_true, Bool.not_eq_true'] at h3
          refine ⟨h3.1, fun e => ?_⟩
          rw [e] at h3
          simp at h3
        · intro e he
          rw [he] at h4
          simpa using h4
      | succ i =>
        have := ih h2 i x (by simpa using hx) (by omega) (by rw [← hb]; congr 1; omega)
        exact this

theorem regOK_form {ops : Array Oper} {bs : List Nat} (h : regOK ops.toList bs = true) : Form ops bs := by
  have go : ∀ {l : List Oper} {k : Nat}, regOKGo ops.toList bs l k = true → ∀ i o, l[i]? = some o →
      (ons o).all (fun e => Nat.blt e (k + i)) = true ∧ Nat.beq ((nth bs (k + i)).getD 0) (orAll bs (ons o)) = true ∧ apartAll ops.toList o ((nth bs (k + i)).getD 0) ops.toList 0 (k + i) = true := by
    intro l
    induction l with
    | nil => intro k _ i o ho; simp at ho
    | cons z l ih =>
      intro k h i o ho
      simp only [regOKGo, Bool.and_eq_true] at h
      cases i with
      | zero => simp at ho; subst ho; exact ⟨h.1, h.2.1, h.2.2.1⟩
      | succ i =>
        have := ih h.2.2.2 i o (by simpa using ho)
        have e : Nat.succ k + i = k + (i + 1) := by omega
        rw [e] at this
        exact this
  have h0 := fun i o ho => go (k := 0) h i o ho
  refine ⟨?_, ?_, ?_⟩
  · intro i o ho j hj
    obtain ⟨h1, _, _⟩ := h0 i o (by rw [Array.getElem?_toList]; exact ho)
    have := List.all_eq_true.1 h1 j hj
    simpa using this
  · intro i o ho
    obtain ⟨_, h1, _⟩ := h0 i o (by rw [Array.getElem?_toList]; exact ho)
    simpa using beq_eq h1
  · intro i j x y hx hy hij hb
    obtain ⟨_, _, h1⟩ := h0 j y (by rw [Array.getElem?_toList]; exact hy)
    rw [Nat.zero_add] at h1
    have := apartAll_spec h1 i x (by rw [Array.getElem?_toList]; exact hx) (by omega) (by rw [Nat.zero_add]; exact hb)
    exact this

theorem has_false {l : List Nat} {t : Nat} (h : has l t = false) : t ∉ l := by
  induction l with
  | nil => simp
  | cons x l ih =>
    simp only [has, Bool.or_eq_false_iff] at h
    intro hm
    rcases List.mem_cons.1 hm with rfl | hm
    · simp at h
    · exact ih h.2 hm

/-! ### The last writer -/
section
variable (ops : Array Oper)
def dstOf (k : Nat) : Option Nat := (ops[k]?).bind (·.dst)

def lw (D : Nat → Bool) (t : Nat) : Nat → Option Nat
  | 0 => none
  | k + 1 => if D k = true ∧ dstOf ops k = some t then some k else lw D t k

def und (D : Nat → Bool) : Nat → Nat
  | 0 => 0
  | k + 1 => und D k + (if D k = true then 0 else 1)

variable {ops}
theorem lw_congr {D E : Nat → Bool} {t : Nat} : ∀ {n : Nat}, (∀ j, j < n → dstOf ops j = some t → D j = E j) → lw ops D t n = lw ops E t n := by
  intro n
  induction n with
  | zero => intro _; rfl
  | succ n ih =>
    intro h
    simp only [lw]
    rw [ih fun j hj => h j (by omega)]
    by_cases hd : dstOf ops n = some t
    · rw [h n (by omega) hd]
    · simp [hd]

theorem lw_lt {D : Nat → Bool} {t j : Nat} : ∀ {n : Nat}, lw ops D t n = some j → j < n ∧ D j = true ∧ dstOf ops j = some t := by
  intro n
  induction n with
  | zero => intro h; cases h
  | succ n ih =>
    intro h
    simp only [lw] at h
    split at h
    · rename_i hc; cases h; exact ⟨by omega, hc⟩
    · obtain ⟨h1, h2⟩ := ih h; exact ⟨by omega, h2⟩

theorem lw_add {D E : Nat → Bool} {i t : Nat} (hE : ∀ j, E j = (D j || decide (j = i))) (hi : D i = false) : ∀ {n : Nat}, (∀ j, i < j → j < n → D j = true → ∀ d, dstOf ops i = some d → dstOf ops j ≠ some d) →
    lw ops E t n = if i < n ∧ dstOf ops i = some t then some i else lw ops D t n := by
  intro n
  induction n with
  | zero => intro _; simp [lw]
  | succ n ih =>
    intro h
    simp only [lw]
    rw [ih fun j h1 h2 => h j h1 (by omega), hE]
    by_cases hn : n = i
    · subst hn
      simp only [hi, Bool.false_or, decide_true, true_and, Nat.lt_irrefl, false_and, if_false, Nat.lt_succ_self, Bool.false_eq_true]
    · simp only [hn, decide_false, Bool.or_false]
      by_cases hc : D n = true ∧ dstOf ops n = some t
      · rw [if_pos hc]
        by_cases hin : i < n + 1 ∧ dstOf ops i = some t
        · exact absurd hc.2 (h n (by omega) (by omega) hc.1 t hin.2)
        · rw [if_neg hin, if_pos hc]
      · rw [if_neg hc, if_neg hc]
        by_cases hlt : i < n
        · have : i < n + 1 := by omega
          simp [hlt, this]
        · have : ¬ i < n + 1 := by omega
          simp [hlt, this]

theorem und_add {D E : Nat → Bool} {i : Nat} (hE : ∀ j, E j = (D j || decide (j = i))) (hi : D i = false) : ∀ {n : Nat}, und D n = und E n + (if i < n then 1 else 0) := by
  intro n
  induction n with
  | zero => simp [und]
  | succ n ih =>
    simp only [und]
    rw [ih, hE]
    by_cases hn : n = i
    · subst hn; simp [hi]
    · by_cases hlt : i < n
      · have : i < n + 1 := by omega
        simp [hn, hlt, this]; omega
      · have : ¬ i < n + 1 := by omega
        simp [hn, hlt, this]

theorem und_zero {D : Nat → Bool} : ∀ {n : Nat}, und D n = 0 → ∀ j, j < n → D j = true := by
  intro n
  induction n with
  | zero => intro _ j hj; omega
  | succ n ih =>
    intro h j hj
    simp only [und] at h
    by_cases e : j = n
    · subst e
      by_cases hd : D j = true
      · exact hd
      · simp [hd] at h
    · exact ih (by omega) j (by omega)
end
end Go.Ev
