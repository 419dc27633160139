/- Laws of the evaluator's trees, numbers and tests; no theorem of the program yet; no conditions. -/
import Derived.Test.YtlngklpiapbpmaaEvC
set_option linter.unusedSimpArgs false
set_option linter.unusedVariables false
namespace Go.Ev

/-! ### Trees -/
theorem beq_ne {a b : Nat} (h : ¬ a = b) : Nat.beq a b = false := Bool.eq_false_iff.2 fun e => h (Nat.eq_of_beq_eq_true e)
theorem beq_eq {a b : Nat} (h : Nat.beq a b = true) : a = b := Nat.eq_of_beq_eq_true h
theorem beq_iff {a b : Nat} : Nat.beq a b = true ↔ a = b := ⟨beq_eq, fun h => h ▸ Nat.beq_refl a⟩
theorem T.get_nil {α : Type} (k : Nat) : (T.nil : T α).get k = none := rfl
theorem T.get_node_zero {α : Type} (v : Option α) (l r : T α) : (T.node v l r).get 0 = v := rfl

theorem land_one (k : Nat) : Nat.land k 1 = k % 2 := Nat.and_one_is_mod k
theorem shr_one (k : Nat) : Nat.shiftRight k 1 = k / 2 := by show k >>> 1 = _; simp [Nat.shiftRight_eq_div_pow]

theorem T.get_node {α : Type} (v : Option α) (l r : T α) (k : Nat) :
    (T.node v l r).get k = if k = 0 then v else if k % 2 = 1 then l.get (k / 2) else r.get ((k - 1) / 2) := by
  have h : (T.node v l r).get k = Bool.rec (Bool.rec (r.get (Nat.shiftRight (Nat.sub k 1) 1)) (l.get (Nat.shiftRight k 1)) (Nat.beq (Nat.land k 1) 1)) v (Nat.beq k 0) := rfl
  rw [h, shr_one, shr_one, land_one]
  by_cases h0 : k = 0
  · subst h0; rfl
  · have e0 : Nat.beq k 0 = false := beq_ne h0
    rw [e0, if_neg h0]
    by_cases h1 : k % 2 = 1
    · have e1 : Nat.beq (k % 2) 1 = true := by rw [h1]; rfl
      rw [e1, if_pos h1]
    · have e1 : Nat.beq (k % 2) 1 = false := beq_ne h1
      rw [e1, if_neg h1]; rfl

theorem T.set_nil {α : Type} (x : Option α) (k : Nat) : T.set x (.nil : T α) k = T.mk1 x (Nat.succ k) k := rfl
theorem T.set_node {α : Type} (x v : Option α) (l r : T α) (k : Nat) :
    T.set x (.node v l r) k = if k = 0 then .node x l r else if k % 2 = 1 then .node v (T.set x l (k / 2)) r else .node v l (T.set x r ((k - 1) / 2)) := by
  have h : T.set x (.node v l r) k = Bool.rec (Bool.rec (.node v l (T.set x r (Nat.shiftRight (Nat.sub k 1) 1))) (.node v (T.set x l (Nat.shiftRight k 1)) r) (Nat.beq (Nat.land k 1) 1)) (.node x l r) (Nat.beq k 0) := rfl
  rw [h, shr_one, shr_one, land_one]
  by_cases h0 : k = 0
  · subst h0; rfl
  · have e0 : Nat.beq k 0 = false := beq_ne h0
    rw [e0, if_neg h0]
    by_cases h1 : k % 2 = 1
    · have e1 : Nat.beq (k % 2) 1 = true := by rw [h1]; rfl
      rw [e1, if_pos h1]
    · have e1 : Nat.beq (k % 2) 1 = false := beq_ne h1
      rw [e1, if_neg h1]; rfl

theorem T.mk1_succ {α : Type} (x : Option α) (f k : Nat) :
    T.mk1 x (f + 1) k = if k = 0 then .node x .nil .nil else if k % 2 = 1 then .node none (T.mk1 x f (k / 2)) .nil else .node none .nil (T.mk1 x f ((k - 1) / 2)) := by
  have h : T.mk1 x (f + 1) k = Bool.rec (Bool.rec (.node none .nil (T.mk1 x f (Nat.shiftRight (Nat.sub k 1) 1))) (.node none (T.mk1 x f (Nat.shiftRight k 1)) .nil) (Nat.beq (Nat.land k 1) 1)) (.node x .nil .nil) (Nat.beq k 0) := rfl
  rw [h, shr_one, shr_one, land_one]
  by_cases h0 : k = 0
  · subst h0; rfl
  · have e0 : Nat.beq k 0 = false := beq_ne h0
    rw [e0, if_neg h0]
    by_cases h1 : k % 2 = 1
    · have e1 : Nat.beq (k % 2) 1 = true := by rw [h1]; rfl
      rw [e1, if_pos h1]
    · have e1 : Nat.beq (k % 2) 1 = false := beq_ne h1
      rw [e1, if_neg h1]; rfl

theorem T.get_mk1 {α : Type} (x : Option α) : ∀ (f k j : Nat), k < f → (T.mk1 x f k).get j = if j = k then x else none := by
  intro f
  induction f with
  | zero => intro k j h; omega
  | succ f ih =>
    intro k j h
    rw [T.mk1_succ]
    by_cases h0 : k = 0
    · subst h0
      rw [if_pos rfl, T.get_node]
      by_cases hj : j = 0
      · simp [hj]
      · simp only [if_neg hj, T.get_nil]; split <;> rfl
    · rw [if_neg h0]
      by_cases h1 : k % 2 = 1
      · rw [if_pos h1, T.get_node]
        by_cases hj : j = 0
        · rw [if_pos hj, if_neg (by omega)]
        · rw [if_neg hj]
          by_cases hj1 : j % 2 = 1
          · rw [if_pos hj1, ih _ _ (by omega)]
            by_cases e : j = k
            · subst e; simp
            · rw [if_neg e, if_neg (by omega)]
          · rw [if_neg hj1, T.get_nil, if_neg (by omega)]
      · rw [if_neg h1, T.get_node]
        by_cases hj : j = 0
        · rw [if_pos hj, if_neg (by omega)]
        · rw [if_neg hj]
          by_cases hj1 : j % 2 = 1
          · rw [if_pos hj1, T.get_nil, if_neg (by omega)]
          · rw [if_neg hj1, ih _ _ (by omega)]
            by_cases e : j = k
            · subst e; simp
            · rw [if_neg e, if_neg (by omega)]

theorem T.get_set {α : Type} (x : Option α) (t : T α) : ∀ (k j : Nat), (T.set x t k).get j = if j = k then x else t.get j := by
  induction t with
  | nil => intro k j; rw [T.set_nil, T.get_mk1 _ _ _ _ (Nat.lt_succ_self k), T.get_nil]
  | node v l r ihl ihr =>
    intro k j
    rw [T.set_node]
    by_cases h0 : k = 0
    · subst h0
      rw [if_pos rfl, T.get_node, T.get_node]
      by_cases hj : j = 0
      · simp [hj]
      · simp [hj]
    · rw [if_neg h0]
      by_cases h1 : k % 2 = 1
      · rw [if_pos h1, T.get_node, T.get_node]
        by_cases hj : j = 0
        · rw [if_pos hj, if_pos hj, if_neg (by omega)]
        · rw [if_neg hj, if_neg hj]
          by_cases hj1 : j % 2 = 1
          · rw [if_pos hj1, if_pos hj1, ihl]
            by_cases e : j = k
            · subst e; simp
            · rw [if_neg e, if_neg (by omega)]
          · rw [if_neg hj1, if_neg hj1, if_neg (by omega)]
      · rw [if_neg h1, T.get_node, T.get_node]
        by_cases hj : j = 0
        · rw [if_pos hj, if_pos hj, if_neg (by omega)]
        · rw [if_neg hj, if_neg hj]
          by_cases hj1 : j % 2 = 1
          · rw [if_pos hj1, if_pos hj1, if_neg (by omega)]
          · rw [if_neg hj1, if_neg hj1, ihr]
            by_cases e : j = k
            · subst e; simp
            · rw [if_neg e, if_neg (by omega)]

theorem T.get_put {α : Type} (t : T α) (k j : Nat) (x : α) : (t.put k x).get j = if j = k then some x else t.get j := T.get_set _ _ _ _
theorem T.get_del {α : Type} (t : T α) (k j : Nat) : (t.del k).get j = if j = k then none else t.get j := T.get_set _ _ _ _

theorem T.puts_nil {α : Type} (t : T α) (k : Nat) : t.puts k [] = t := rfl
theorem T.puts_cons {α : Type} (t : T α) (k : Nat) (x : α) (xs : List α) : t.puts k (x :: xs) = (t.put k x).puts (k + 1) xs := rfl

theorem T.get_puts {α : Type} (xs : List α) : ∀ (t : T α) (k j : Nat), (t.puts k xs).get j = if k ≤ j ∧ j < k + xs.length then xs[j - k]? else t.get j := by
  induction xs with
  | nil => intro t k j; rw [T.puts_nil, if_neg (by simp)]
  | cons x xs ih =>
    intro t k j
    rw [T.puts_cons, ih, T.get_put]
    by_cases h : k ≤ j ∧ j < k + (x :: xs).length
    · rw [if_pos h]
      by_cases e : j = k
      · subst e; rw [if_neg (by omega), if_pos rfl]; simp
      · rw [if_pos (by simp at h; omega)]
        have : j - k = (j - (k + 1)) + 1 := by omega
        rw [this]; simp
    · rw [if_neg h, if_neg (by simp at h ⊢; omega), if_neg (by simp at h; omega)]

theorem T.gets_zero {α : Type} (t : T α) (k : Nat) : t.gets k 0 = some [] := rfl
theorem T.gets_succ {α : Type} (t : T α) (k n : Nat) : t.gets k (n + 1) = match t.get k with
    | none => none
    | some x => match t.gets (k + 1) n with
      | none => none
      | some xs => some (x :: xs) := by
  have h : t.gets k (n + 1) = Option.rec (motive := fun _ => Option (List α)) none (fun x => Option.rec (motive := fun _ => Option (List α)) none (fun xs => some (x :: xs)) (t.gets (k + 1) n)) (t.get k) := rfl
  rw [h]
  cases t.get k with
  | none => rfl
  | some x => cases t.gets (k + 1) n <;> rfl

theorem T.gets_spec {α : Type} (t : T α) : ∀ (n k : Nat) (xs : List α), t.gets k n = some xs → xs.length = n ∧ ∀ j x, xs[j]? = some x → t.get (k + j) = some x := by
  intro n
  induction n with
  | zero => intro k xs h; rw [T.gets_zero] at h; cases h; exact ⟨rfl, fun j x h => by simp at h⟩
  | succ n ih =>
    intro k xs h
    rw [T.gets_succ] at h
    cases hx : t.get k with
    | none => rw [hx] at h; cases h
    | some x =>
      rw [hx] at h
      cases hxs : t.gets (k + 1) n with
      | none => rw [hxs] at h; cases h
      | some ys =>
        rw [hxs] at h
        cases h
        obtain ⟨hl, hg⟩ := ih _ _ hxs
        refine ⟨by simp [hl], fun j y hj => ?_⟩
        cases j with
        | zero => simp at hj; subst hj; exact hx
        | succ j => simp at hj; have := hg j y hj; rw [← this]; congr 1; omega

/-! ### Results -/
theorem Res.bind_ok {α β : Type} (a : α) (f : α → Res β) : (Res.ok a).bind f = f a := rfl
theorem Res.bind_need {α β : Type} (b : SB) (f : α → Res β) : (Res.need b : Res α).bind f = .need b := rfl
theorem Res.bind_fail {α β : Type} (s : String) (f : α → Res β) : (Res.fail s : Res α).bind f = .fail s := rfl

theorem Res.bind_eq_ok {α β : Type} {x : Res α} {f : α → Res β} {b : β} (h : x.bind f = .ok b) : ∃ a, x = .ok a ∧ f a = .ok b := by
  cases x with
  | ok a => exact ⟨a, rfl, h⟩
  | need b => cases h
  | fail s => cases h

theorem Res.ofO_eq_ok {α : Type} {why : String} {x : Option α} {a : α} (h : Res.ofO why x = .ok a) : x = some a := by
  cases x with
  | none => cases h
  | some b => cases h; rfl

/-! ### Equality of symbolic numbers -/
theorem ikBeq_eq {k l : IntKind} (h : ikBeq k l = true) : k = l := by cases k <;> cases l <;> first | rfl | cases h
theorem ikBeq_refl (k : IntKind) : ikBeq k k = true := by cases k <;> rfl
theorem bopBeq_eq {k l : BOp} (h : k.beq l = true) : k = l := by cases k <;> cases l <;> first | rfl | cases h
theorem intBeq_eq {a b : Int} : intBeq a b = (a == b) := by
  rw [Bool.eq_iff_iff, beq_iff_eq]
  cases a <;> cases b <;> simp [intBeq] <;> omega

theorem SE.beq_eq : ∀ {a b : SE}, a.beq b = true → a = b := by
  intro a
  induction a with
  | lit n => intro b h; cases b <;> simp [SE.beq, intBeq_eq] at h; simp [h]
  | var i => intro b h; cases b <;> simp [SE.beq] at h; simp [h]
  | wrap k e ih => intro b h; cases b <;> simp [SE.beq] at h; rw [ikBeq_eq h.1, ih h.2]
  | add a b iha ihb => intro c h; cases c <;> simp [SE.beq] at h; rw [iha h.1, ihb h.2]
  | sub a b iha ihb => intro c h; cases c <;> simp [SE.beq] at h; rw [iha h.1, ihb h.2]
  | mul a b iha ihb => intro c h; cases c <;> simp [SE.beq] at h; rw [iha h.1, ihb h.2]
  | quo a b iha ihb => intro c h; cases c <;> simp [SE.beq] at h; rw [iha h.1, ihb h.2]
  | rem a b iha ihb => intro c h; cases c <;> simp [SE.beq] at h; rw [iha h.1, ihb h.2]
  | shl a n ih => intro c h; cases c <;> simp [SE.beq] at h; rw [h.1, ih h.2]
  | shr a n ih => intro c h; cases c <;> simp [SE.beq] at h; rw [h.1, ih h.2]
  | bits o k a b iha ihb => intro c h; cases c <;> simp [SE.beq] at h; rw [bopBeq_eq h.1.1.1, ikBeq_eq h.1.1.2, iha h.1.2, ihb h.2]
  | app g a ih => intro c h; cases c <;> simp [SE.beq] at h; rw [h.1, ih h.2]
  | nil => intro c h; cases c <;> simp [SE.beq] at h; rfl
  | cons a b iha ihb => intro c h; cases c <;> simp [SE.beq] at h; rw [iha h.1, ihb h.2]

theorem SB.beq_eq : ∀ {a b : SB}, a.beq b = true → a = b := by
  intro a
  induction a with
  | lit n => intro b h; cases b <;> simp [SB.beq] at h; simp [h]
  | lt a b => intro c h; cases c <;> simp [SB.beq] at h; rw [SE.beq_eq h.1, SE.beq_eq h.2]
  | le a b => intro c h; cases c <;> simp [SB.beq] at h; rw [SE.beq_eq h.1, SE.beq_eq h.2]
  | eq a b => intro c h; cases c <;> simp [SB.beq] at h; rw [SE.beq_eq h.1, SE.beq_eq h.2]
  | not a ih => intro c h; cases c <;> simp [SB.beq] at h; rw [ih h]
  | and a b iha ihb => intro c h; cases c <;> simp [SB.beq] at h; rw [iha h.1, ihb h.2]
  | app g a => intro c h; cases c <;> simp [SB.beq] at h; rw [h.1, SE.beq_eq h.2]


/-! ### What is decided is so -/
section
variable {ρ : Env}

theorem cond_eq {α : Type} {c : Bool} {x y z : α} (h : (bif c then x else y) = z) : (c = true ∧ x = z) ∨ (c = false ∧ y = z) := by
  cases c
  · exact .inr ⟨rfl, h⟩
  · exact .inl ⟨rfl, h⟩

theorem PC.holds_nil : PC.holds ρ [] := fun _ h => by cases h
theorem PC.holds_cons {b : SB} {t : Bool} {pc : PC} : PC.holds ρ ((b, t) :: pc) ↔ b.den ρ = t ∧ PC.holds ρ pc := by
  constructor
  · intro h; exact ⟨h (b, t) (by simp), fun x hx => h x (by simp [hx])⟩
  · rintro ⟨h, h'⟩ x hx
    rcases List.mem_cons.1 hx with rfl | hx
    · exact h
    · exact h' x hx

theorem PC.known_spec {b : SB} {t : Bool} : ∀ {pc : PC}, PC.holds ρ pc → pc.known b = some t → b.den ρ = t := by
  intro pc
  induction pc with
  | nil => intro _ h; cases h
  | cons x pc ih =>
    obtain ⟨a, u⟩ := x
    intro hp h
    obtain ⟨h1, h2⟩ := PC.holds_cons.1 hp
    simp only [PC.known] at h
    cases hb : a.beq b with
    | true => rw [hb] at h; simp at h; subst h; rw [← SB.beq_eq hb]; exact h1
    | false => rw [hb] at h; exact ih h2 h

theorem PC.eqOf_spec {e : SE} {n : Int} : ∀ {pc : PC}, PC.holds ρ pc → pc.eqOf e = some n → e.den ρ = n := by
  intro pc
  induction pc with
  | nil => intro _ h; cases h
  | cons x pc ih =>
    obtain ⟨a, u⟩ := x
    intro hp h
    obtain ⟨h1, h2⟩ := PC.holds_cons.1 hp
    unfold PC.eqOf at h
    split at h
    · cases h
    · rename_i a m r heq
      cases heq
      cases hb : SE.beq a e with
      | true =>
        rw [hb] at h; simp at h; subst h
        rw [← SE.beq_eq hb]
        simpa [SB.den, SE.den] using h1
      | false => rw [hb] at h; exact ih h2 h
    · rename_i heq; cases heq; exact ih h2 h

theorem maxO_spec {a : Option Int} {b l x : Int} (h : maxO a b = some l) (ha : ∀ y, a = some y → y ≤ x) (hb : b ≤ x) : l ≤ x := by
  cases a with
  | none => simp [maxO] at h; omega
  | some y => have := ha y rfl; simp only [maxO, Option.some.injEq] at h; subst h; split <;> omega
theorem minO_spec {a : Option Int} {b l x : Int} (h : minO a b = some l) (ha : ∀ y, a = some y → x ≤ y) (hb : x ≤ b) : x ≤ l := by
  cases a with
  | none => simp [minO] at h; omega
  | some y => have := ha y rfl; simp only [minO, Option.some.injEq] at h; subst h; split <;> omega

theorem PC.lo_spec {e : SE} : ∀ {pc : PC} {l : Int}, PC.holds ρ pc → pc.lo e = some l → l ≤ e.den ρ := by
  intro pc
  induction pc with
  | nil => intro l _ h; cases h
  | cons x pc ih =>
    obtain ⟨a, u⟩ := x
    intro l hp h
    obtain ⟨h1, h2⟩ := PC.holds_cons.1 hp
    unfold PC.lo at h
    split at h
    · cases h
    all_goals (rename_i heq; cases heq)
    all_goals first | exact ih h2 h | skip
    all_goals
      rcases cond_eq h with ⟨hb, h⟩ | ⟨_, h⟩
      · have e1 := SE.beq_eq hb
        subst e1
        first | replace h1 := of_decide_eq_true h1 | replace h1 := of_decide_eq_false h1
        simp only [SE.den] at h1
        exact maxO_spec h (fun y hy => ih h2 hy) (by omega)
      · exact ih h2 h

theorem PC.hi_spec {e : SE} : ∀ {pc : PC} {l : Int}, PC.holds ρ pc → pc.hi e = some l → e.den ρ ≤ l := by
  intro pc
  induction pc with
  | nil => intro l _ h; cases h
  | cons x pc ih =>
    obtain ⟨a, u⟩ := x
    intro l hp h
    obtain ⟨h1, h2⟩ := PC.holds_cons.1 hp
    unfold PC.hi at h
    split at h
    · cases h
    all_goals (rename_i heq; cases heq)
    all_goals first | exact ih h2 h | skip
    all_goals
      rcases cond_eq h with ⟨hb, h⟩ | ⟨_, h⟩
      · have e1 := SE.beq_eq hb
        subst e1
        first | replace h1 := of_decide_eq_true h1 | replace h1 := of_decide_eq_false h1
        simp only [SE.den] at h1
        exact minO_spec h (fun y hy => ih h2 hy) (by omega)
      · exact ih h2 h

theorem PC.lo_not {pc : PC} {e : SE} {l x : Int} (hp : PC.holds ρ pc) (h : pc.lo e = some l) (hx : x < l) : x < e.den ρ := Int.lt_of_lt_of_le hx (PC.lo_spec hp h)

theorem ltLit_spec {pc : PC} {a b : SE} {t : Bool} (hp : PC.holds ρ pc) (h : ltLit pc a b = some t) : decide (a.den ρ < b.den ρ) = t := by
  have hlo : ∀ e l, pc.lo e = some l → l ≤ e.den ρ := fun e l h => PC.lo_spec hp h
  have hhi : ∀ e l, pc.hi e = some l → e.den ρ ≤ l := fun e l h => PC.hi_spec hp h
  unfold ltLit at h
  split at h
  · cases h; rfl
  all_goals
    (repeat' split at h) <;> first
      | (cases h; done)
      | (cases h
         rw [decide_eq_true_eq]
         simp only [SE.den]
         first
           | (have h1 := hlo _ _ ‹_›; omega)
           | (have h1 := hhi _ _ ‹_›; omega))
      | (cases h
         rw [decide_eq_false_iff_not]
         simp only [SE.den]
         first
           | (have h1 := hhi _ _ ‹_›; omega)
           | (have h1 := hlo _ _ ‹_›; omega))

theorem leLit_spec {pc : PC} {a b : SE} {t : Bool} (hp : PC.holds ρ pc) (h : leLit pc a b = some t) : decide (a.den ρ ≤ b.den ρ) = t := by
  unfold leLit at h
  cases hl : ltLit pc b a with
  | none => rw [hl] at h; cases h
  | some u =>
    rw [hl] at h
    have := ltLit_spec hp hl
    simp only [Option.map_some, Option.some.injEq] at h
    subst h
    rw [← this]
    by_cases h : b.den ρ < a.den ρ
    · simp [h]
    · simp [h]; omega

theorem eqLit_spec {pc : PC} {a b : SE} {t : Bool} (hp : PC.holds ρ pc) (h : eqLit pc a b = some t) : (a.den ρ == b.den ρ) = t := by
  unfold eqLit at h
  split at h
  · rename_i h1
    have := ltLit_spec hp h1
    simp at this
    cases h; simp; omega
  · rename_i l hl
    split at h
    · rename_i h1
      have := ltLit_spec hp h1
      simp at this
      cases h; simp; omega
    · rename_i h1
      have e1 := ltLit_spec hp h1
      split at h
      · rename_i h2
        have e2 := ltLit_spec hp h2
        simp at e1 e2
        cases h; simp; omega
      · cases h
    · cases h

theorem op1_eq {f : Int → Int} {a : Option Int} {n : Int} (h : op1 f a = some n) : ∃ x, a = some x ∧ n = f x := by
  cases a with
  | none => cases h
  | some x => cases h; exact ⟨x, rfl, rfl⟩
theorem op2_eq {f : Int → Int → Int} {a b : Option Int} {n : Int} (h : op2 f a b = some n) : ∃ x y, a = some x ∧ b = some y ∧ n = f x y := by
  cases a with
  | none => cases h
  | some x => cases b with
    | none => cases h
    | some y => cases h; exact ⟨x, y, rfl, rfl, rfl⟩
theorem tst2_eq {f : Int → Int → Bool} {a b : Option Int} {n : Bool} (h : tst2 f a b = some n) : ∃ x y, a = some x ∧ b = some y ∧ n = f x y := by
  cases a with
  | none => cases h
  | some x => cases b with
    | none => cases h
    | some y => cases h; exact ⟨x, y, rfl, rfl, rfl⟩

theorem SE.ev_spec {i : Nat} : ∀ {e : SE} {n : Int}, e.ev i (ρ.v i) = some n → e.den ρ = n := by
  intro e
  induction e with
  | lit m => intro n h; cases h; rfl
  | var j =>
    intro n h
    have h : (bif Nat.beq j i then some (ρ.v i) else none) = some n := h
    cases hj : Nat.beq j i with
    | true => rw [hj] at h; cases h; rw [Nat.eq_of_beq_eq_true hj]; rfl
    | false => rw [hj] at h; cases h
  | wrap k e ih => intro n h; obtain ⟨x, h1, rfl⟩ := op1_eq h; simp only [SE.den, ih h1]
  | add a b iha ihb => intro n h; obtain ⟨x, y, h1, h2, rfl⟩ := op2_eq h; simp only [SE.den, iha h1, ihb h2]
  | sub a b iha ihb => intro n h; obtain ⟨x, y, h1, h2, rfl⟩ := op2_eq h; simp only [SE.den, iha h1, ihb h2]
  | mul a b iha ihb => intro n h; obtain ⟨x, y, h1, h2, rfl⟩ := op2_eq h; simp only [SE.den, iha h1, ihb h2]
  | quo a b iha ihb => intro n h; obtain ⟨x, y, h1, h2, rfl⟩ := op2_eq h; simp only [SE.den, iha h1, ihb h2]
  | rem a b iha ihb => intro n h; obtain ⟨x, y, h1, h2, rfl⟩ := op2_eq h; simp only [SE.den, iha h1, ihb h2]
  | shl a m ih => intro n h; obtain ⟨x, h1, rfl⟩ := op1_eq h; simp only [SE.den, ih h1]
  | shr a m ih => intro n h; obtain ⟨x, h1, rfl⟩ := op1_eq h; simp only [SE.den, ih h1]
  | bits o k a b iha ihb => intro n h; obtain ⟨x, y, h1, h2, rfl⟩ := op2_eq h; simp only [SE.den, iha h1, ihb h2]
  | app g a _ => intro n h; cases h
  | nil => intro n h; cases h
  | cons a b _ _ => intro n h; cases h

theorem SB.ev_spec {i : Nat} : ∀ {b : SB} {t : Bool}, b.ev i (ρ.v i) = some t → b.den ρ = t := by
  intro b
  induction b with
  | lit c => intro t h; cases h; rfl
  | lt a b => intro t h; obtain ⟨x, y, h1, h2, rfl⟩ := tst2_eq h; simp only [SB.den, SE.ev_spec h1, SE.ev_spec h2]
  | le a b => intro t h; obtain ⟨x, y, h1, h2, rfl⟩ := tst2_eq h; simp only [SB.den, SE.ev_spec h1, SE.ev_spec h2]
  | eq a b => intro t h; obtain ⟨x, y, h1, h2, rfl⟩ := tst2_eq h; simp only [SB.den, SE.ev_spec h1, SE.ev_spec h2]
  | not a ih =>
    intro t h
    have h : not1 (a.ev i (ρ.v i)) = some t := h
    cases ha : a.ev i (ρ.v i) with
    | none => rw [ha] at h; cases h
    | some u => rw [ha] at h; cases h; simp only [SB.den, ih ha]
  | and a b iha ihb =>
    intro t h
    have h : and2 (a.ev i (ρ.v i)) (b.ev i (ρ.v i)) = some t := h
    cases ha : a.ev i (ρ.v i) with
    | none => rw [ha] at h; cases h
    | some u => cases hb : b.ev i (ρ.v i) with
      | none => rw [ha, hb] at h; cases h
      | some v => rw [ha, hb] at h; cases h; simp only [SB.den, iha ha, ihb hb]
  | app g a => intro t h; cases h

theorem alive_spec {pc : PC} (hp : PC.holds ρ pc) (i : Nat) : alive i (ρ.v i) pc = true := by
  unfold alive
  rw [List.all_eq_true]
  intro x hx
  split
  · rename_i t ht
    have h1 := SB.ev_spec ht
    have h2 := hp x hx
    rw [h1] at h2
    simp [h2]
  · rfl

theorem lives_mem {pc : PC} (hp : PC.holds ρ pc) {i : Nat} {l : Int} : ∀ {n : Nat}, l ≤ ρ.v i → ρ.v i < l + n → ρ.v i ∈ lives pc i l n := by
  intro n
  induction n with
  | zero => intro h1 h2; omega
  | succ n ih =>
    intro h1 h2
    simp only [lives]
    by_cases e : ρ.v i = l + (Int.ofNat n)
    · rw [← e, alive_spec hp i]
      exact List.mem_cons_self
    · have := ih h1 (by have : (Int.ofNat n) = (n : Int) := rfl
                        push_cast at h2
                        omega)
      cases alive i (l + (Int.ofNat n)) pc
      · exact this
      · exact List.mem_cons_of_mem _ this

theorem isSome_eq {b : Bool} {o : Option Bool} (h : isSome b o = true) : o = some b := by
  cases o with
  | none => cases h
  | some t => simp [isSome] at h; rw [h]

theorem exh_spec {pc : PC} (hp : PC.holds ρ pc) {b : SB} {t : Bool} (h : exh pc b = some t) : b.den ρ = t := by
  unfold exh at h
  split at h
  · cases h
  · rename_i i _
    split at h
    · rename_i l hh h1 h2
      have a1 := PC.lo_spec hp h1
      have a2 := PC.hi_spec hp h2
      simp only [SE.den] at a1 a2
      have hm : ρ.v i ∈ lives pc i l (hh + 1 - l).toNat := lives_mem hp a1 (by omega)
      cases hd : decide (hh < l + 300) with
      | false => rw [hd] at h; cases h
      | true =>
        rw [hd] at h
        simp only [cond_true] at h
        cases h3 : (lives pc i l (hh + 1 - l).toNat).all (fun v => isSome true (b.ev i v)) with
        | true =>
          rw [h3] at h
          cases h
          exact SB.ev_spec (isSome_eq (List.all_eq_true.1 h3 _ hm))
        | false =>
          rw [h3] at h
          simp only [cond_false] at h
          cases h4 : (lives pc i l (hh + 1 - l).toNat).all (fun v => isSome false (b.ev i v)) with
          | true =>
            rw [h4] at h
            cases h
            exact SB.ev_spec (isSome_eq (List.all_eq_true.1 h4 _ hm))
          | false => rw [h4] at h; cases h
    · cases h

theorem orExh_spec {pc : PC} (hp : PC.holds ρ pc) {b : SB} {o : Option Bool} {t : Bool} (ho : ∀ u, o = some u → b.den ρ = u) (h : orExh pc b o = some t) : b.den ρ = t := by
  cases o with
  | none => exact exh_spec hp h
  | some u => cases h; exact ho _ rfl

theorem dec_spec {pc : PC} (hp : PC.holds ρ pc) : ∀ {b : SB} {t : Bool}, dec pc b = some t → b.den ρ = t := by
  intro b
  induction b with
  | lit b => intro t h; simp [dec] at h; exact h
  | not a ih =>
    intro t h
    simp only [dec] at h
    cases ha : dec pc a with
    | none => rw [ha] at h; cases h
    | some u => rw [ha] at h; simp only [Option.map_some, Option.some.injEq] at h; simp only [SB.den]; rw [ih ha]; exact h
  | and a b iha ihb =>
    intro t h
    simp only [dec] at h
    split at h
    · rename_i h1; cases h; simp only [SB.den]; rw [iha h1]; rfl
    · rename_i h1; simp only [SB.den]; rw [iha h1, ihb h]; simp
    · exact PC.known_spec hp h
  | lt a b =>
    intro t h
    simp only [dec] at h
    split at h
    · rename_i h1; cases h; exact ltLit_spec hp h1
    · exact orExh_spec hp (fun u hu => PC.known_spec hp hu) h
  | le a b =>
    intro t h
    simp only [dec] at h
    split at h
    · rename_i h1; cases h; exact leLit_spec hp h1
    · exact orExh_spec hp (fun u hu => PC.known_spec hp hu) h
  | eq a b =>
    intro t h
    simp only [dec] at h
    split at h
    · rename_i h1; cases h; exact eqLit_spec hp h1
    · cases hab : a.beq b with
      | true => rw [hab] at h; cases h; rw [SE.beq_eq hab]; simp [SB.den]
      | false =>
        rw [hab] at h
        exact orExh_spec hp (fun u hu => PC.known_spec hp hu) h
  | app g a => intro t h; exact PC.known_spec hp h

theorem decR_spec {pc : PC} (hp : PC.holds ρ pc) {b : SB} {t : Bool} (h : decR pc b = .ok t) : b.den ρ = t := by
  unfold decR at h
  split at h
  · rename_i h1; cases h; exact dec_spec hp h1
  · cases h

theorem nrm_spec {pc : PC} (hp : PC.holds ρ pc) (e : SE) : (nrm pc e).den ρ = e.den ρ := by
  unfold nrm
  split
  · rfl
  · split
    · rename_i h; rw [PC.eqOf_spec hp h]; rfl
    · rfl

/-! ### Folded numbers and tests are the plain ones -/
theorem wrapL_eq (k : IntKind) (n : Int) : wrapL k n = k.wrap n := by
  cases n with
  | negSucc m => rfl
  | ofNat m =>
    unfold wrapL
    cases h : Nat.ble m (lim k) with
    | false => simp only [h]; rfl
    | true =>
      have hm : m ≤ lim k := Nat.le_of_ble_eq_true h
      simp only [h, cond_true]
      show ((m : Nat) : Int) = k.wrap (m : Int)
      cases k <;> simp only [lim] at hm <;> simp only [IntKind.wrap, IntKind.bits, IntKind.signed] <;> simp <;> omega

theorem wrapE_den (k : IntKind) (e : SE) : (wrapE k e).den ρ = k.wrap (e.den ρ) := by
  cases e <;> first | rfl | simp [wrapE, SE.den, wrapL_eq]
theorem addE_den (a b : SE) : (addE a b).den ρ = a.den ρ + b.den ρ := by unfold addE; split <;> rfl
theorem subE_den (a b : SE) : (subE a b).den ρ = a.den ρ - b.den ρ := by unfold subE; split <;> rfl
theorem mulE_den (a b : SE) : (mulE a b).den ρ = a.den ρ * b.den ρ := by unfold mulE; split <;> rfl
theorem quoE_den (a b : SE) : (quoE a b).den ρ = (a.den ρ).tdiv (b.den ρ) := by unfold quoE; split <;> rfl
theorem remE_den (a b : SE) : (remE a b).den ρ = (a.den ρ).tmod (b.den ρ) := by unfold remE; split <;> rfl
theorem shlE_den (a : SE) (n : Nat) : (shlE a n).den ρ = a.den ρ * 2 ^ n := by unfold shlE; split <;> rfl
theorem shrE_den (a : SE) (n : Nat) : (shrE a n).den ρ = (a.den ρ).fdiv (2 ^ n) := by unfold shrE; split <;> rfl
theorem bitsE_den (o : BOp) (k : IntKind) (a b : SE) : (bitsE o k a b).den ρ = bitOp o k (a.den ρ) (b.den ρ) := by unfold bitsE; split <;> rfl
theorem ltE_den (a b : SE) : (ltE a b).den ρ = decide (a.den ρ < b.den ρ) := by unfold ltE; split <;> rfl
theorem leE_den (a b : SE) : (leE a b).den ρ = decide (a.den ρ ≤ b.den ρ) := by unfold leE; split <;> rfl
theorem eqE_den (a b : SE) : (eqE a b).den ρ = (a.den ρ == b.den ρ) := by
  unfold eqE; split
  · simp [SB.den, SE.den, intBeq_eq]
  · cases hab : a.beq b with
    | true => rw [SE.beq_eq hab]; simp [SB.den]
    | false => rfl
theorem notB_den (a : SB) : (notB a).den ρ = !a.den ρ := by unfold notB; split <;> simp [SB.den]
theorem andB_den (a b : SB) : (andB a b).den ρ = (a.den ρ && b.den ρ) := by unfold andB; split <;> simp [SB.den]

/-! ### A number written out -/
theorem which_spec {pc : PC} (hp : PC.holds ρ pc) {e : SE} {m : Nat} : ∀ {n j : Nat}, which pc e j n = .ok m → e.den ρ = (m : Int) ∧ m < j + n := by
  intro n
  induction n with
  | zero => intro j h; cases h
  | succ n ih =>
    intro j h
    unfold which at h
    split at h
    · rename_i h1
      cases h
      have := dec_spec hp h1
      simp only [SB.den, SE.den, beq_iff_eq] at this
      exact ⟨this, by omega⟩
    · have := ih h; exact ⟨this.1, by have := this.2; simp only [Nat.succ_eq_add_one] at this; omega⟩
    · cases h

theorem below_spec {pc : PC} (hp : PC.holds ρ pc) {e : SE} {m n : Nat} (h : below pc e n = .ok m) : e.den ρ = (m : Int) ∧ m < n := by
  unfold below at h
  split at h
  · rcases cond_eq h with ⟨h1, h⟩ | ⟨_, h⟩
    · cases h; exact ⟨rfl, by simpa using h1⟩
    · cases h
  · cases h
  · (repeat' split at h) <;> first | (cases h; done) | skip
    have := which_spec hp h
    exact ⟨this.1, by omega⟩

theorem inByte_spec {pc : PC} (hp : PC.holds ρ pc) {e : SE} (h : inByte pc e = true) : 0 ≤ e.den ρ ∧ e.den ρ ≤ 255 := by
  unfold inByte at h
  split at h
  · simp only [SE.den]; simp at h; constructor
    · exact Int.natCast_nonneg _
    · show ((_ : Nat) : Int) ≤ 255; omega
  · cases h
  · split at h
    · rename_i l u h1 h2
      simp at h
      have a := PC.lo_spec hp h1
      have b := PC.hi_spec hp h2
      omega
    · cases h
end

end Go.Ev
