/- Laws of the evaluator's trees, numbers and tests; no theorem of the program yet; no conditions. -/
import Derived.Test.YtcibejieeieknaaGreatDoorEvA
import Derived.Laws.World
import Derived.Laws.Sem
import Derived.Laws.AppendOwn
import Derived.Laws.CopyRow
import Derived.Laws.BytesString
import Derived.Laws.StructEq
import Derived.Laws.Slices
import Derived.Laws.Concat
set_option linter.unusedSimpArgs false
set_option linter.unusedVariables false
namespace Go.Ev

/-! ### Trees -/
theorem beq_ne {a b : Nat} (h : ¬ a = b) : Nat.beq a b = false := Bool.eq_false_iff.2 fun e => h (Nat.eq_of_beq_eq_true e)
theorem beq_eq {a b : Nat} (h : Nat.beq a b = true) : a = b := Nat.eq_of_beq_eq_true h
theorem beq_iff {a b : Nat} : Nat.beq a b = true ↔ a = b := ⟨beq_eq, fun h => h ▸ Nat.beq_refl a⟩
theorem T.get_nil {α : Type} (k : Nat) : (T.nil : T α).get k = none := rfl
theorem T.get_node_zero {α : Type} (v : Option α) (l r : T α) : (T.node v l r).get 0 = v := rfl

theorem land_one (k : Nat) : Nat.land k 1 = k % 2 := Nat.and_one_is_mod k
theorem shr_one (k : Nat) : Nat.shiftRight k 1 = k / 2 := by show k >>> 1 = _; simp [Nat.shiftRight_eq_div_pow]

theorem T.get_node {α : Type} (v : Option α) (l r : T α) (k : Nat) :
    (T.node v l r).get k = if k = 0 then v else if k % 2 = 1 then l.get (k / 2) else r.get ((k - 1) / 2) := by
  have h : (T.node v l r).get k = Bool.rec (Bool.rec (r.get (Nat.shiftRight (Nat.sub k 1) 1)) (l.get (Nat.shiftRight k 1)) (Nat.beq (Nat.land k 1) 1)) v (Nat.beq k 0) := rfl
  rw [h, shr_one, shr_one, land_one]
  by_cases h0 : k = 0
  · subst h0; rfl
  · have e0 : Nat.beq k 0 = false := beq_ne h0
    rw [e0, if_neg h0]
    by_cases h1 : k % 2 = 1
    · have e1 : Nat.beq (k % 2) 1 = true := by rw [h1]; rfl
      rw [e1, if_pos h1]
    · have e1 : Nat.beq (k % 2) 1 = false := beq_ne h1
      rw [e1, if_neg h1]; rfl

theorem T.set_nil {α : Type} (x : Option α) (k : Nat) : T.set x (.nil : T α) k = T.mk1 x (Nat.succ k) k := rfl
theorem T.set_node {α : Type} (x v : Option α) (l r : T α) (k : Nat) :
    T.set x (.node v l r) k = if k = 0 then .node x l r else if k % 2 = 1 then .node v (T.set x l (k / 2)) r else .node v l (T.set x r ((k - 1) / 2)) := by
  have h : T.set x (.node v l r) k = Bool.rec (Bool.rec (.node v l (T.set x r (Nat.shiftRight (Nat.sub k 1) 1))) (.node v (T.set x l (Nat.shiftRight k 1)) r) (Nat.beq (Nat.land k 1) 1)) (.node x l r) (Nat.beq k 0) := rfl
  rw [h, shr_one, shr_one, land_one]
  by_cases h0 : k = 0
  · subst h0; rfl
  · have e0 : Nat.beq k 0 = false := beq_ne h0
    rw [e0, if_neg h0]
    by_cases h1 : k % 2 = 1
    · have e1 : Nat.beq (k % 2) 1 = true := by rw [h1]; rfl
      rw [e1, if_pos h1]
    · have e1 : Nat.beq (k % 2) 1 = false := beq_ne h1
      rw [e1, if_neg h1]; rfl

theorem T.mk1_succ {α : Type} (x : Option α) (f k : Nat) :
    T.mk1 x (f + 1) k = if k = 0 then .node x .nil .nil else if k % 2 = 1 then .node none (T.mk1 x f (k / 2)) .nil else .node none .nil (T.mk1 x f ((k - 1) / 2)) := by
  have h : T.mk1 x (f + 1) k = Bool.rec (Bool.rec (.node none .nil (T.mk1 x f (Nat.shiftRight (Nat.sub k 1) 1))) (.node none (T.mk1 x f (Nat.shiftRight k 1)) .nil) (Nat.beq (Nat.land k 1) 1)) (.node x .nil .nil) (Nat.beq k 0) := rfl
  rw [h, shr_one, shr_one, land_one]
  by_cases h0 : k = 0
  · subst h0; rfl
  · have e0 : Nat.beq k 0 = false := beq_ne h0
    rw [e0, if_neg h0]
    by_cases h1 : k % 2 = 1
    · have e1 : Nat.beq (k % 2) 1 = true := by rw [h1]; rfl
      rw [e1, if_pos h1]
    · have e1 : Nat.beq (k % 2) 1 = false := beq_ne h1
      rw [e1, if_neg h1]; rfl

theorem T.get_mk1 {α : Type} (x : Option α) : ∀ (f k j : Nat), k < f → (T.mk1 x f k).get j = if j = k then x else none := by
  intro f
  induction f with
  | zero => intro k j h; omega
  | succ f ih =>
    intro k j h
    rw [T.mk1_succ]
    by_cases h0 : k = 0
    · subst h0
      rw [if_pos rfl, T.get_node]
      by_cases hj : j = 0
      · simp [hj]
      · simp only [if_neg hj, T.get_nil]; split <;> rfl
    · rw [if_neg h0]
      by_cases h1 : k % 2 = 1
      · rw [if_pos h1, T.get_node]
        by_cases hj : j = 0
        · rw [if_pos hj, if_neg (by omega)]
        · rw [if_neg hj]
          by_cases hj1 : j % 2 = 1
          · rw [if_pos hj1, ih _ _ (by omega)]
            by_cases e : j = k
            · subst e; simp
            · rw [if_neg e, if_neg (by omega)]
          · rw [if_neg hj1, T.get_nil, if_neg (by omega)]
      · rw [if_neg h1, T.get_node]
        by_cases hj : j = 0
        · rw [if_pos hj, if_neg (by omega)]
        · rw [if_neg hj]
          by_cases hj1 : j % 2 = 1
          · rw [if_pos hj1, T.get_nil, if_neg (by omega)]
          · rw [if_neg hj1, ih _ _ (by omega)]
            by_cases e : j = k
            · subst e; simp
            · rw [if_neg e, if_neg (by omega)]

theorem T.get_set {α : Type} (x : Option α) (t : T α) : ∀ (k j : Nat), (T.set x t k).get j = if j = k then x else t.get j := by
  induction t with
  | nil => intro k j; rw [T.set_nil, T.get_mk1 _ _ _ _ (Nat.lt_succ_self k), T.get_nil]
  | node v l r ihl ihr =>
    intro k j
    rw [T.set_node]
    by_cases h0 : k = 0
    · subst h0
      rw [if_pos rfl, T.get_node, T.get_node]
      by_cases hj : j = 0
      · simp [hj]
      · simp [hj]
    · rw [if_neg h0]
      by_cases h1 : k % 2 = 1
      · rw [if_pos h1, T.get_node, T.get_node]
        by_cases hj : j = 0
        · rw [if_pos hj, if_pos hj, if_neg (by omega)]
        · rw [if_neg hj, if_neg hj]
          by_cases hj1 : j % 2 = 1
          · rw [if_pos hj1, if_pos hj1, ihl]
            by_cases e : j = k
            · subst e; simp
            · rw [if_neg e, if_neg (by omega)]
          · rw [if_neg hj1, if_neg hj1, if_neg (by omega)]
      · rw [if_neg h1, T.get_node, T.get_node]
        by_cases hj : j = 0
        · rw [if_pos hj, if_pos hj, if_neg (by omega)]
        · rw [if_neg hj, if_neg hj]
          by_cases hj1 : j % 2 = 1
          · rw [if_pos hj1, if_pos hj1, if_neg (by omega)]
          · rw [if_neg hj1, if_neg hj1, ihr]
            by_cases e : j = k
            · subst e; simp
            · rw [if_neg e, if_neg (by omega)]

theorem T.get_put {α : Type} (t : T α) (k j : Nat) (x : α) : (t.put k x).get j = if j = k then some x else t.get j := T.get_set _ _ _ _
theorem T.get_del {α : Type} (t : T α) (k j : Nat) : (t.del k).get j = if j = k then none else t.get j := T.get_set _ _ _ _

theorem T.puts_nil {α : Type} (t : T α) (k : Nat) : t.puts k [] = t := rfl
theorem T.puts_cons {α : Type} (t : T α) (k : Nat) (x : α) (xs : List α) : t.puts k (x :: xs) = (t.put k x).puts (k + 1) xs := rfl

theorem T.get_puts {α : Type} (xs : List α) : ∀ (t : T α) (k j : Nat), (t.puts k xs).get j = if k ≤ j ∧ j < k + xs.length then xs[j - k]? else t.get j := by
  induction xs with
  | nil => intro t k j; rw [T.puts_nil, if_neg (by simp)]
  | cons x xs ih =>
    intro t k j
    rw [T.puts_cons, ih, T.get_put]
    by_cases h : k ≤ j ∧ j < k + (x :: xs).length
    · rw [if_pos h]
      by_cases e : j = k
      · subst e; rw [if_neg (by omega), if_pos rfl]; simp
      · rw [if_pos (by simp at h; omega)]
        have : j - k = (j - (k + 1)) + 1 := by omega
        rw [this]; simp
    · rw [if_neg h, if_neg (by simp at h ⊢; omega), if_neg (by simp at h; omega)]

theorem T.gets_zero {α : Type} (t : T α) (k : Nat) : t.gets k 0 = some [] := rfl
theorem T.gets_succ {α : Type} (t : T α) (k n : Nat) : t.gets k (n + 1) = match t.get k with
    | none => none
    | some x => match t.gets (k + 1) n with
      | none => none
      | some xs => some (x :: xs) := by
  have h : t.gets k (n + 1) = Option.rec (motive := fun _ => Option (List α)) none (fun x => Option.rec (motive := fun _ => Option (List α)) none (fun xs => some (x :: xs)) (t.gets (k + 1) n)) (t.get k) := rfl
  rw [h]
  cases t.get k with
  | none => rfl
  | some x => cases t.gets (k + 1) n <;> rfl

theorem T.gets_spec {α : Type} (t : T α) : ∀ (n k : Nat) (xs : List α), t.gets k n = some xs → xs.length = n ∧ ∀ j x, xs[j]? = some x → t.get (k + j) = some x := by
  intro n
  induction n with
  | zero => intro k xs h; rw [T.gets_zero] at h; cases h; exact ⟨rfl, fun j x h => by simp at h⟩
  | succ n ih =>
    intro k xs h
    rw [T.gets_succ] at h
    cases hx : t.get k with
    | none => rw [hx] at h; cases h
    | some x =>
      rw [hx] at h
      cases hxs : t.gets (k + 1) n with
      | none => rw [hxs] at h; cases h
      | some ys =>
        rw [hxs] at h
        cases h
        obtain ⟨hl, hg⟩ := ih _ _ hxs
        refine ⟨by simp [hl], fun j y hj => ?_⟩
        cases j with
        | zero => simp at hj; subst hj; exact hx
        | succ j => simp at hj; have := hg j y hj; rw [← this]; congr 1; omega

/-! ### Results -/
theorem Res.bind_ok {α β : Type} (a : α) (f : α → Res β) : (Res.ok a).bind f = f a := rfl
theorem Res.bind_need {α β : Type} (b : SB) (f : α → Res β) : (Res.need b : Res α).bind f = .need b := rfl
theorem Res.bind_fail {α β : Type} (s : String) (f : α → Res β) : (Res.fail s : Res α).bind f = .fail s := rfl

theorem Res.bind_eq_ok {α β : Type} {x : Res α} {f : α → Res β} {b : β} (h : x.bind f = .ok b) : ∃ a, x = .ok a ∧ f a = .ok b := by
  cases x with
  | ok a => exact ⟨a, rfl, h⟩
  | need b => cases h
  | fail s => cases h

theorem Res.ofO_eq_ok {α : Type} {why : String} {x : Option α} {a : α} (h : Res.ofO why x = .ok a) : x = some a := by
  cases x with
  | none => cases h
  | some b => cases h; rfl

/-! ### Equality of symbolic numbers -/
theorem ikBeq_eq {k l : IntKind} (h : ikBeq k l = true) : k = l := by cases k <;> cases l <;> first | rfl | cases h
theorem ikBeq_refl (k : IntKind) : ikBeq k k = true := by cases k <;> rfl
theorem bopBeq_eq {k l : BOp} (h : k.beq l = true) : k = l := by cases k <;> cases l <;> first | rfl | cases h
theorem intBeq_eq {a b : Int} : intBeq a b = (a == b) := by
  rw [Bool.eq_iff_iff, beq_iff_eq]
  cases a <;> cases b <;> simp [intBeq] <;> omega

theorem SE.beq_eq : ∀ {a b : SE}, a.beq b = true → a = b := by
  intro a
  induction a with
  | lit n => intro b h; cases b <;> simp [SE.beq, intBeq_eq] at h; simp [h]
  | var i => intro b h; cases b <;> simp [SE.beq] at h; simp [h]
  | wrap k e ih => intro b h; cases b <;> simp [SE.beq] at h; rw [ikBeq_eq h.1, ih h.2]
  | add a b iha ihb => intro c h; cases c <;> simp [SE.beq] at h; rw [iha h.1, ihb h.2]
  | sub a b iha ihb => intro c h; cases c <;> simp [SE.beq] at h; rw [iha h.1, ihb h.2]
  | mul a b iha ihb => intro c h; cases c <;> simp [SE.beq] at h; rw [iha h.1, ihb h.2]
  | quo a b iha ihb => intro c h; cases c <;> simp [SE.beq] at h; rw [iha h.1, ihb h.2]
  | rem a b iha ihb => intro c h; cases c <;> simp [SE.beq] at h; rw [iha h.1, ihb h.2]
  | shl a n ih => intro c h; cases c <;> simp [SE.beq] at h; rw [h.1, ih h.2]
  | shr a n ih => intro c h; cases c <;> simp [SE.beq] at h; rw [h.1, ih h.2]
  | bits o k a b iha ihb => intro c h; cases c <;> simp [SE.beq] at h; rw [bopBeq_eq h.1.1.1, ikBeq_eq h.1.1.2, iha h.1.2, ihb h.2]
  | app g a ih => intro c h; cases c <;> simp [SE.beq] at h; rw [h.1, ih h.2]
  | nil => intro c h; cases c <;> simp [SE.beq] at h; rfl
  | cons a b iha ihb => intro c h; cases c <;> simp [SE.beq] at h; rw [iha h.1, ihb h.2]

theorem SB.beq_eq : ∀ {a b : SB}, a.beq b = true → a = b := by
  intro a
  induction a with
  | lit n => intro b h; cases b <;> simp [SB.beq] at h; simp [h]
  | lt a b => intro c h; cases c <;> simp [SB.beq] at h; rw [SE.beq_eq h.1, SE.beq_eq h.2]
  | le a b => intro c h; cases c <;> simp [SB.beq] at h; rw [SE.beq_eq h.1, SE.beq_eq h.2]
  | eq a b => intro c h; cases c <;> simp [SB.beq] at h; rw [SE.beq_eq h.1, SE.beq_eq h.2]
  | not a ih => intro c h; cases c <;> simp [SB.beq] at h; rw [ih h]
  | and a b iha ihb => intro c h; cases c <;> simp [SB.beq] at h; rw [iha h.1, ihb h.2]
  | app g a => intro c h; cases c <;> simp [SB.beq] at h; rw [h.1, SE.beq_eq h.2]


/-! ### What is decided is so -/
section
variable {ρ : Env}

theorem cond_eq {α : Type} {c : Bool} {x y z : α} (h : (bif c then x else y) = z) : (c = true ∧ x = z) ∨ (c = false ∧ y = z) := by
  cases c
  · exact .inr ⟨rfl, h⟩
  · exact .inl ⟨rfl, h⟩

theorem PC.holds_nil : PC.holds ρ [] := fun _ h => by cases h
theorem PC.holds_cons {b : SB} {t : Bool} {pc : PC} : PC.holds ρ ((b, t) :: pc) ↔ b.den ρ = t ∧ PC.holds ρ pc := by
  constructor
  · intro h; exact ⟨h (b, t) (by simp), fun x hx => h x (by simp [hx])⟩
  · rintro ⟨h, h'⟩ x hx
    rcases List.mem_cons.1 hx with rfl | hx
    · exact h
    · exact h' x hx

theorem PC.known_spec {b : SB} {t : Bool} : ∀ {pc : PC}, PC.holds ρ pc → pc.known b = some t → b.den ρ = t := by
  intro pc
  induction pc with
  | nil => intro _ h; cases h
  | cons x pc ih =>
    obtain ⟨a, u⟩ := x
    intro hp h
    obtain ⟨h1, h2⟩ := PC.holds_cons.1 hp
    simp only [PC.known] at h
    cases hb : a.beq b with
    | true => rw [hb] at h; simp at h; subst h; rw [← SB.beq_eq hb]; exact h1
    | false => rw [hb] at h; exact ih h2 h

theorem PC.eqOf_spec {e : SE} {n : Int} : ∀ {pc : PC}, PC.holds ρ pc → pc.eqOf e = some n → e.den ρ = n := by
  intro pc
  induction pc with
  | nil => intro _ h; cases h
  | cons x pc ih =>
    obtain ⟨a, u⟩ := x
    intro hp h
    obtain ⟨h1, h2⟩ := PC.holds_cons.1 hp
    unfold PC.eqOf at h
    split at h
    · cases h
    · rename_i a m r heq
      cases heq
      cases hb : SE.beq a e with
      | true =>
        rw [hb] at h; simp at h; subst h
        rw [← SE.beq_eq hb]
        simpa [SB.den, SE.den] using h1
      | false => rw [hb] at h; exact ih h2 h
    · rename_i heq; cases heq; exact ih h2 h

theorem maxO_spec {a : Option Int} {b l x : Int} (h : maxO a b = some l) (ha : ∀ y, a = some y → y ≤ x) (hb : b ≤ x) : l ≤ x := by
  cases a with
  | none => simp [maxO] at h; omega
  | some y => have := ha y rfl; simp only [maxO, Option.some.injEq] at h; subst h; split <;> omega
theorem minO_spec {a : Option Int} {b l x : Int} (h : minO a b = some l) (ha : ∀ y, a = some y → x ≤ y) (hb : x ≤ b) : x ≤ l := by
  cases a with
  | none => simp [minO] at h; omega
  | some y => have := ha y rfl; simp only [minO, Option.some.injEq] at h; subst h; split <;> omega

theorem PC.lo_spec {e : SE} : ∀ {pc : PC} {l : Int}, PC.holds ρ pc → pc.lo e = some l → l ≤ e.den ρ := by
  intro pc
  induction pc with
  | nil => intro l _ h; cases h
  | cons x pc ih =>
    obtain ⟨a, u⟩ := x
    intro l hp h
    obtain ⟨h1, h2⟩ := PC.holds_cons.1 hp
    unfold PC.lo at h
    split at h
    · cases h
    all_goals (rename_i heq; cases heq)
    all_goals first | exact ih h2 h | skip
    all_goals
      rcases cond_eq h with ⟨hb, h⟩ | ⟨_, h⟩
      · have e1 := SE.beq_eq hb
        subst e1
        first | replace h1 := of_decide_eq_true h1 | replace h1 := of_decide_eq_false h1
        simp only [SE.den] at h1
        exact maxO_spec h (fun y hy => ih h2 hy) (by omega)
      · exact ih h2 h

theorem PC.hi_spec {e : SE} : ∀ {pc : PC} {l : Int}, PC.holds ρ pc → pc.hi e = some l → e.den ρ ≤ l := by
  intro pc
  induction pc with
  | nil => intro l _ h; cases h
  | cons x pc ih =>
    obtain ⟨a, u⟩ := x
    intro l hp h
    obtain ⟨h1, h2⟩ := PC.holds_cons.1 hp
    unfold PC.hi at h
    split at h
    · cases h
    all_goals (rename_i heq; cases heq)
    all_goals first | exact ih h2 h | skip
    all_goals
      rcases cond_eq h with ⟨hb, h⟩ | ⟨_, h⟩
      · have e1 := SE.beq_eq hb
        subst e1
        first | replace h1 := of_decide_eq_true h1 | replace h1 := of_decide_eq_false h1
        simp only [SE.den] at h1
        exact minO_spec h (fun y hy => ih h2 hy) (by omega)
      · exact ih h2 h

theorem PC.lo_not {pc : PC} {e : SE} {l x : Int} (hp : PC.holds ρ pc) (h : pc.lo e = some l) (hx : x < l) : x < e.den ρ := Int.lt_of_lt_of_le hx (PC.lo_spec hp h)

theorem ltLit_spec {pc : PC} {a b : SE} {t : Bool} (hp : PC.holds ρ pc) (h : ltLit pc a b = some t) : decide (a.den ρ < b.den ρ) = t := by
  have hlo : ∀ e l, pc.lo e = some l → l ≤ e.den ρ := fun e l h => PC.lo_spec hp h
  have hhi : ∀ e l, pc.hi e = some l → e.den ρ ≤ l := fun e l h => PC.hi_spec hp h
  unfold ltLit at h
  split at h
  · cases h; rfl
  all_goals
    (repeat' split at h) <;> first
      | (cases h; done)
      | (cases h
         rw [decide_eq_true_eq]
         simp only [SE.den]
         first
           | (have h1 := hlo _ _ ‹_›; omega)
           | (have h1 := hhi _ _ ‹_›; omega))
      | (cases h
         rw [decide_eq_false_iff_not]
         simp only [SE.den]
         first
           | (have h1 := hhi _ _ ‹_›; omega)
           | (have h1 := hlo _ _ ‹_›; omega))

theorem leLit_spec {pc : PC} {a b : SE} {t : Bool} (hp : PC.holds ρ pc) (h : leLit pc a b = some t) : decide (a.den ρ ≤ b.den ρ) = t := by
  unfold leLit at h
  cases hl : ltLit pc b a with
  | none => rw [hl] at h; cases h
  | some u =>
    rw [hl] at h
    have := ltLit_spec hp hl
    simp only [Option.map_some, Option.some.injEq] at h
    subst h
    rw [← this]
    by_cases h : b.den ρ < a.den ρ
    · simp [h]
    · simp [h]; omega

theorem eqLit_spec {pc : PC} {a b : SE} {t : Bool} (hp : PC.holds ρ pc) (h : eqLit pc a b = some t) : (a.den ρ == b.den ρ) = t := by
  unfold eqLit at h
  split at h
  · rename_i h1
    have := ltLit_spec hp h1
    simp at this
    cases h; simp; omega
  · rename_i l hl
    split at h
    · rename_i h1
      have := ltLit_spec hp h1
      simp at this
      cases h; simp; omega
    · rename_i h1
      have e1 := ltLit_spec hp h1
      split at h
      · rename_i h2
        have e2 := ltLit_spec hp h2
        simp at e1 e2
        cases h; simp; omega
      · cases h
    · cases h

theorem op1_eq {f : Int → Int} {a : Option Int} {n : Int} (h : op1 f a = some n) : ∃ x, a = some x ∧ n = f x := by
  cases a with
  | none => cases h
  | some x => cases h; exact ⟨x, rfl, rfl⟩
theorem op2_eq {f : Int → Int → Int} {a b : Option Int} {n : Int} (h : op2 f a b = some n) : ∃ x y, a = some x ∧ b = some y ∧ n = f x y := by
  cases a with
  | none => cases h
  | some x => cases b with
    | none => cases h
    | some y => cases h; exact ⟨x, y, rfl, rfl, rfl⟩
theorem tst2_eq {f : Int → Int → Bool} {a b : Option Int} {n : Bool} (h : tst2 f a b = some n) : ∃ x y, a = some x ∧ b = some y ∧ n = f x y := by
  cases a with
  | none => cases h
  | some x => cases b with
    | none => cases h
    | some y => cases h; exact ⟨x, y, rfl, rfl, rfl⟩

theorem SE.ev_spec {i : Nat} : ∀ {e : SE} {n : Int}, e.ev i (ρ.v i) = some n → e.den ρ = n := by
  intro e
  induction e with
  | lit m => intro n h; cases h; rfl
  | var j =>
    intro n h
    have h : (bif Nat.beq j i then some (ρ.v i) else none) = some n := h
    cases hj : Nat.beq j i with
    | true => rw [hj] at h; cases h; rw [Nat.eq_of_beq_eq_true hj]; rfl
    | false => rw [hj] at h; cases h
  | wrap k e ih => intro n h; obtain ⟨x, h1, rfl⟩ := op1_eq h; simp only [SE.den, ih h1]
  | add a b iha ihb => intro n h; obtain ⟨x, y, h1, h2, rfl⟩ := op2_eq h; simp only [SE.den, iha h1, ihb h2]
  | sub a b iha ihb => intro n h; obtain ⟨x, y, h1, h2, rfl⟩ := op2_eq h; simp only [SE.den, iha h1, ihb h2]
  | mul a b iha ihb => intro n h; obtain ⟨x, y, h1, h2, rfl⟩ := op2_eq h; simp only [SE.den, iha h1, ihb h2]
  | quo a b iha ihb => intro n h; obtain ⟨x, y, h1, h2, rfl⟩ := op2_eq h; simp only [SE.den, iha h1, ihb h2]
  | rem a b iha ihb => intro n h; obtain ⟨x, y, h1, h2, rfl⟩ := op2_eq h; simp only [SE.den, iha h1, ihb h2]
  | shl a m ih => intro n h; obtain ⟨x, h1, rfl⟩ := op1_eq h; simp only [SE.den, ih h1]
  | shr a m ih => intro n h; obtain ⟨x, h1, rfl⟩ := op1_eq h; simp only [SE.den, ih h1]
  | bits o k a b iha ihb => intro n h; obtain ⟨x, y, h1, h2, rfl⟩ := op2_eq h; simp only [SE.den, iha h1, ihb h2]
  | app g a _ => intro n h; cases h
  | nil => intro n h; cases h
  | cons a b _ _ => intro n h; cases h

theorem SB.ev_spec {i : Nat} : ∀ {b : SB} {t : Bool}, b.ev i (ρ.v i) = some t → b.den ρ = t := by
  intro b
  induction b with
  | lit c => intro t h; cases h; rfl
  | lt a b => intro t h; obtain ⟨x, y, h1, h2, rfl⟩ := tst2_eq h; simp only [SB.den, SE.ev_spec h1, SE.ev_spec h2]
  | le a b => intro t h; obtain ⟨x, y, h1, h2, rfl⟩ := tst2_eq h; simp only [SB.den, SE.ev_spec h1, SE.ev_spec h2]
  | eq a b => intro t h; obtain ⟨x, y, h1, h2, rfl⟩ := tst2_eq h; simp only [SB.den, SE.ev_spec h1, SE.ev_spec h2]
  | not a ih =>
    intro t h
    have h : not1 (a.ev i (ρ.v i)) = some t := h
    cases ha : a.ev i (ρ.v i) with
    | none => rw [ha] at h; cases h
    | some u => rw [ha] at h; cases h; simp only [SB.den, ih ha]
  | and a b iha ihb =>
    intro t h
    have h : and2 (a.ev i (ρ.v i)) (b.ev i (ρ.v i)) = some t := h
    cases ha : a.ev i (ρ.v i) with
    | none => rw [ha] at h; cases h
    | some u => cases hb : b.ev i (ρ.v i) with
      | none => rw [ha, hb] at h; cases h
      | some v => rw [ha, hb] at h; cases h; simp only [SB.den, iha ha, ihb hb]
  | app g a => intro t h; cases h

theorem alive_spec {pc : PC} (hp : PC.holds ρ pc) (i : Nat) : alive i (ρ.v i) pc = true := by
  unfold alive
  rw [List.all_eq_true]
  intro x hx
  split
  · rename_i t ht
    have h1 := SB.ev_spec ht
    have h2 := hp x hx
    rw [h1] at h2
    simp [h2]
  · rfl

theorem lives_mem {pc : PC} (hp : PC.holds ρ pc) {i : Nat} {l : Int} : ∀ {n : Nat}, l ≤ ρ.v i → ρ.v i < l + n → ρ.v i ∈ lives pc i l n := by
  intro n
  induction n with
  | zero => intro h1 h2; omega
  | succ n ih =>
    intro h1 h2
    simp only [lives]
    by_cases e : ρ.v i = l + (Int.ofNat n)
    · rw [← e, alive_spec hp i]
      exact List.mem_cons_self
    · have := ih h1 (by have : (Int.ofNat n) = (n : Int) := rfl
                        push_cast at h2
                        omega)
      cases alive i (l + (Int.ofNat n)) pc
      · exact this
      · exact List.mem_cons_of_mem _ this

theorem isSome_eq {b : Bool} {o : Option Bool} (h : isSome b o = true) : o = some b := by
  cases o with
  | none => cases h
  | some t => simp [isSome] at h; rw [h]

theorem exh_spec {pc : PC} (hp : PC.holds ρ pc) {b : SB} {t : Bool} (h : exh pc b = some t) : b.den ρ = t := by
  unfold exh at h
  split at h
  · cases h
  · rename_i i _
    split at h
    · rename_i l hh h1 h2
      have a1 := PC.lo_spec hp h1
      have a2 := PC.hi_spec hp h2
      simp only [SE.den] at a1 a2
      have hm : ρ.v i ∈ lives pc i l (hh + 1 - l).toNat := lives_mem hp a1 (by omega)
      cases hd : decide (hh < l + 300) with
      | false => rw [hd] at h; cases h
      | true =>
        rw [hd] at h
        simp only [cond_true] at h
        cases h3 : (lives pc i l (hh + 1 - l).toNat).all (fun v => isSome true (b.ev i v)) with
        | true =>
          rw [h3] at h
          cases h
          exact SB.ev_spec (isSome_eq (List.all_eq_true.1 h3 _ hm))
        | false =>
          rw [h3] at h
          simp only [cond_false] at h
          cases h4 : (lives pc i l (hh + 1 - l).toNat).all (fun v => isSome false (b.ev i v)) with
          | true =>
            rw [h4] at h
            cases h
            exact SB.ev_spec (isSome_eq (List.all_eq_true.1 h4 _ hm))
          | false => rw [h4] at h; cases h
    · cases h

theorem orExh_spec {pc : PC} (hp : PC.holds ρ pc) {b : SB} {o : Option Bool} {t : Bool} (ho : ∀ u, o = some u → b.den ρ = u) (h : orExh pc b o = some t) : b.den ρ = t := by
  cases o with
  | none => exact exh_spec hp h
  | some u => cases h; exact ho _ rfl

theorem dec_spec {pc : PC} (hp : PC.holds ρ pc) : ∀ {b : SB} {t : Bool}, dec pc b = some t → b.den ρ = t := by
  intro b
  induction b with
  | lit b => intro t h; simp [dec] at h; exact h
  | not a ih =>
    intro t h
    simp only [dec] at h
    cases ha : dec pc a with
    | none => rw [ha] at h; cases h
    | some u => rw [ha] at h; simp only [Option.map_some, Option.some.injEq] at h; simp only [SB.den]; rw [ih ha]; exact h
  | and a b iha ihb =>
    intro t h
    simp only [dec] at h
    split at h
    · rename_i h1; cases h; simp only [SB.den]; rw [iha h1]; rfl
    · rename_i h1; simp only [SB.den]; rw [iha h1, ihb h]; simp
    · exact PC.known_spec hp h
  | lt a b =>
    intro t h
    simp only [dec] at h
    split at h
    · rename_i h1; cases h; exact ltLit_spec hp h1
    · exact orExh_spec hp (fun u hu => PC.known_spec hp hu) h
  | le a b =>
    intro t h
    simp only [dec] at h
    split at h
    · rename_i h1; cases h; exact leLit_spec hp h1
    · exact orExh_spec hp (fun u hu => PC.known_spec hp hu) h
  | eq a b =>
    intro t h
    simp only [dec] at h
    split at h
    · rename_i h1; cases h; exact eqLit_spec hp h1
    · cases hab : a.beq b with
      | true => rw [hab] at h; cases h; rw [SE.beq_eq hab]; simp [SB.den]
      | false =>
        rw [hab] at h
        exact orExh_spec hp (fun u hu => PC.known_spec hp hu) h
  | app g a => intro t h; exact PC.known_spec hp h

theorem decR_spec {pc : PC} (hp : PC.holds ρ pc) {b : SB} {t : Bool} (h : decR pc b = .ok t) : b.den ρ = t := by
  unfold decR at h
  split at h
  · rename_i h1; cases h; exact dec_spec hp h1
  · cases h

theorem nrm_spec {pc : PC} (hp : PC.holds ρ pc) (e : SE) : (nrm pc e).den ρ = e.den ρ := by
  unfold nrm
  split
  · rfl
  · split
    · rename_i h; rw [PC.eqOf_spec hp h]; rfl
    · rfl

/-! ### Folded numbers and tests are the plain ones -/
theorem wrapL_eq (k : IntKind) (n : Int) : wrapL k n = k.wrap n := by
  cases n with
  | negSucc m => rfl
  | ofNat m =>
    unfold wrapL
    cases h : Nat.ble m (lim k) with
    | false => simp only [h]; rfl
    | true =>
      have hm : m ≤ lim k := Nat.le_of_ble_eq_true h
      simp only [h, cond_true]
      show ((m : Nat) : Int) = k.wrap (m : Int)
      cases k <;> simp only [lim] at hm <;> simp only [IntKind.wrap, IntKind.bits, IntKind.signed] <;> simp <;> omega

theorem wrapE_den (k : IntKind) (e : SE) : (wrapE k e).den ρ = k.wrap (e.den ρ) := by
  cases e <;> first | rfl | simp [wrapE, SE.den, wrapL_eq]
theorem addE_den (a b : SE) : (addE a b).den ρ = a.den ρ + b.den ρ := by unfold addE; split <;> rfl
theorem subE_den (a b : SE) : (subE a b).den ρ = a.den ρ - b.den ρ := by unfold subE; split <;> rfl
theorem mulE_den (a b : SE) : (mulE a b).den ρ = a.den ρ * b.den ρ := by unfold mulE; split <;> rfl
theorem quoE_den (a b : SE) : (quoE a b).den ρ = (a.den ρ).tdiv (b.den ρ) := by unfold quoE; split <;> rfl
theorem remE_den (a b : SE) : (remE a b).den ρ = (a.den ρ).tmod (b.den ρ) := by unfold remE; split <;> rfl
theorem shlE_den (a : SE) (n : Nat) : (shlE a n).den ρ = a.den ρ * 2 ^ n := by unfold shlE; split <;> rfl
theorem shrE_den (a : SE) (n : Nat) : (shrE a n).den ρ = (a.den ρ).fdiv (2 ^ n) := by unfold shrE; split <;> rfl
theorem bitsE_den (o : BOp) (k : IntKind) (a b : SE) : (bitsE o k a b).den ρ = bitOp o k (a.den ρ) (b.den ρ) := by unfold bitsE; split <;> rfl
theorem ltE_den (a b : SE) : (ltE a b).den ρ = decide (a.den ρ < b.den ρ) := by unfold ltE; split <;> rfl
theorem leE_den (a b : SE) : (leE a b).den ρ = decide (a.den ρ ≤ b.den ρ) := by unfold leE; split <;> rfl
theorem eqE_den (a b : SE) : (eqE a b).den ρ = (a.den ρ == b.den ρ) := by
  unfold eqE; split
  · simp [SB.den, SE.den, intBeq_eq]
  · cases hab : a.beq b with
    | true => rw [SE.beq_eq hab]; simp [SB.den]
    | false => rfl
theorem notB_den (a : SB) : (notB a).den ρ = !a.den ρ := by unfold notB; split <;> simp [SB.den]
theorem andB_den (a b : SB) : (andB a b).den ρ = (a.den ρ && b.den ρ) := by unfold andB; split <;> simp [SB.den]

/-! ### A number written out -/
theorem which_spec {pc : PC} (hp : PC.holds ρ pc) {e : SE} {m : Nat} : ∀ {n j : Nat}, which pc e j n = .ok m → e.den ρ = (m : Int) ∧ m < j + n := by
  intro n
  induction n with
  | zero => intro j h; cases h
  | succ n ih =>
    intro j h
    unfold which at h
    split at h
    · rename_i h1
      cases h
      have := dec_spec hp h1
      simp only [SB.den, SE.den, beq_iff_eq] at this
      exact ⟨this, by omega⟩
    · have := ih h; exact ⟨this.1, by have := this.2; simp only [Nat.succ_eq_add_one] at this; omega⟩
    · cases h

theorem below_spec {pc : PC} (hp : PC.holds ρ pc) {e : SE} {m n : Nat} (h : below pc e n = .ok m) : e.den ρ = (m : Int) ∧ m < n := by
  unfold below at h
  split at h
  · rcases cond_eq h with ⟨h1, h⟩ | ⟨_, h⟩
    · cases h; exact ⟨rfl, by simpa using h1⟩
    · cases h
  · cases h
  · (repeat' split at h) <;> first | (cases h; done) | skip
    have := which_spec hp h
    exact ⟨this.1, by omega⟩

theorem inByte_spec {pc : PC} (hp : PC.holds ρ pc) {e : SE} (h : inByte pc e = true) : 0 ≤ e.den ρ ∧ e.den ρ ≤ 255 := by
  unfold inByte at h
  split at h
  · simp only [SE.den]; simp at h; constructor
    · exact Int.natCast_nonneg _
    · show ((_ : Nat) : Int) ≤ 255; omega
  · cases h
  · split at h
    · rename_i l u h1 h2
      simp at h
      have a := PC.lo_spec hp h1
      have b := PC.hi_spec hp h2
      omega
    · cases h
end

end Go.Ev

/- How the evaluator's values and heap stand for the model's; no theorem of the program yet; no conditions. -/
namespace Go.Ev

/-- Where a block lies: its number, the place of its first cell, how many cells there are in all. -/
abbrev Loc := Nat × Nat × Nat
abbrev Mu := Nat → Option Loc

def Mu.le (μ μ' : Mu) : Prop := ∀ id p, μ id = some p → μ' id = some p
theorem Mu.le_refl (μ : Mu) : μ.le μ := fun _ _ h => h
theorem Mu.le_trans {a b c : Mu} (h : a.le b) (h' : b.le c) : a.le c := fun id p e => h' id p (h id p e)

def fnR (μ : Mu) (f g : Fn) : Prop :=
  match f with
  | .yield l => ∃ p, μ l = some p ∧ g = .yield p.1
  | f => g = f

def SR (ρ : Env) (n : Nat) (bs : List SE) (s : ByteArray) : Prop :=
  bs.length = n ∧ s.data.toList = bs.map fun e => UInt8.ofNat (e.den ρ).toNat

mutual
def VR (ρ : Env) (μ : Mu) : AV → Value → Prop
  | .int k e, v => v = .int k (e.den ρ)
  | .bool b, v => v = .bool (b.den ρ)
  | .str n bs, v => ∃ s, v = .string s ∧ SR ρ n bs s
  | .nilp, v => v = .pointer none
  | .ptr id off, v => ∃ p, μ id = some p ∧ v = .pointer (some ⟨p.1, p.2.1 + off, none⟩)
  | .nils, v => v = .slice none 0 0
  | .slc id off len ex cap es, v => ∃ p c, μ id = some p ∧ v = .slice (some ⟨p.1, p.2.1 + off, none⟩) len c ∧ (ex = true → c = cap) ∧ cap ≤ c ∧ len ≤ cap ∧ p.2.1 + off + c * es ≤ p.2.2
  | .emp, v => ∃ a c, v = .slice (some a) 0 c
  | .slv id off n l es, v => ∃ (p : Loc) (c m : Nat), v = .slice (some ⟨p.1, p.2.1 + off, none⟩) m c ∧ μ id = some p ∧ (m : Int) = l.den ρ ∧ n ≤ m ∧ m ≤ c ∧ p.2.1 + off + c * es ≤ p.2.2
  | .ptrv id off es n e, v => ∃ (p : Loc) (j : Nat), μ id = some p ∧ e.den ρ = j ∧ j < n ∧ v = .pointer (some ⟨p.1, p.2.1 + (off + j * es), none⟩)
  | .pick cs e, v => ∃ j : Nat, e.den ρ = j ∧ VRn ρ μ cs j v ∧ v.oneCell' = true
  | .nilm, v => v = .map none
  | .map id, v => ∃ p, μ id = some p ∧ v = .map (some p.1)
  | .nilf, v => v = .nilFunc
  | .func fn a b, v => ∃ fn' a' b', v = .func fn' a' b' ∧ fnR μ fn fn' ∧ VRs ρ μ a a'.toList ∧ VRs ρ μ b b'.toList
  | .nili, v => v = .nilIface
  | .iface t x, v => ∃ y, v = .iface t y ∧ VR ρ μ x y
  | .agg cs, v => ∃ ys, v = .agg ys ∧ VRs ρ μ cs ys.toList
  | .tup vs, v => ∃ ys, v = .tuple ys ∧ VRs ρ μ vs ys.toList
def VRs (ρ : Env) (μ : Mu) : List AV → List Value → Prop
  | [], ys => ys = []
  | a :: as, ys => ∃ y r, ys = y :: r ∧ VR ρ μ a y ∧ VRs ρ μ as r
/-- The value of the j-th. -/
def VRn (ρ : Env) (μ : Mu) : List AV → Nat → Value → Prop
  | [], _, _ => False
  | a :: _, 0, v => VR ρ μ a v
  | _ :: as, j + 1, v => VRn ρ μ as j v
end

theorem fnR_mono {μ μ' : Mu} (h : μ.le μ') {f g : Fn} (hf : fnR μ f g) : fnR μ' f g := by
  cases f <;> simp only [fnR] at hf ⊢ <;> first
    | exact hf
    | (obtain ⟨p, h1, h2⟩ := hf; exact ⟨p, h _ _ h1, h2⟩)

mutual
theorem VR_mono {ρ : Env} {μ μ' : Mu} (h : μ.le μ') : ∀ {a : AV} {v : Value}, VR ρ μ a v → VR ρ μ' a v
  | .int _ _, _, hv => hv
  | .bool _, _, hv => hv
  | .str _ _, _, hv => hv
  | .nilp, _, hv => hv
  | .ptr _ _, _, ⟨p, h1, h2⟩ => ⟨p, h _ _ h1, h2⟩
  | .nils, _, hv => hv
  | .slc .., _, ⟨p, c, h1, h2⟩ => ⟨p, c, h _ _ h1, h2⟩
  | .emp, _, hv => hv
  | .slv .., _, ⟨p, c, m, h0, h1, h2⟩ => ⟨p, c, m, h0, h _ _ h1, h2⟩
  | .ptrv .., _, ⟨p, j, h1, h2⟩ => ⟨p, j, h _ _ h1, h2⟩
  | .pick _ _, _, ⟨j, h1, h2, h3⟩ => ⟨j, h1, VRn_mono h h2, h3⟩
  | .nilm, _, hv => hv
  | .map _, _, ⟨p, h1, h2⟩ => ⟨p, h _ _ h1, h2⟩
  | .nilf, _, hv => hv
  | .func _ _ _, _, ⟨f, a, b, h1, h2, h3, h4⟩ => ⟨f, a, b, h1, fnR_mono h h2, VRs_mono h h3, VRs_mono h h4⟩
  | .nili, _, hv => hv
  | .iface _ _, _, ⟨y, h1, h2⟩ => ⟨y, h1, VR_mono h h2⟩
  | .agg _, _, ⟨ys, h1, h2⟩ => ⟨ys, h1, VRs_mono h h2⟩
  | .tup _, _, ⟨ys, h1, h2⟩ => ⟨ys, h1, VRs_mono h h2⟩
theorem VRs_mono {ρ : Env} {μ μ' : Mu} (h : μ.le μ') : ∀ {as : List AV} {vs : List Value}, VRs ρ μ as vs → VRs ρ μ' as vs
  | [], _, hv => hv
  | _ :: _, _, ⟨y, r, h1, h2, h3⟩ => ⟨y, r, h1, VR_mono h h2, VRs_mono h h3⟩
theorem VRn_mono {ρ : Env} {μ μ' : Mu} (h : μ.le μ') : ∀ {as : List AV} {j : Nat} {v : Value}, VRn ρ μ as j v → VRn ρ μ' as j v
  | [], _, _, hv => hv
  | _ :: _, 0, _, hv => VR_mono h hv
  | _ :: as, j + 1, _, hv => VRn_mono (as := as) (j := j) h hv
end

section
variable {ρ : Env} {μ : Mu}

theorem VRs_nil {vs : List Value} : VRs ρ μ [] vs ↔ vs = [] := by rw [VRs]
theorem VRs_cons {a : AV} {as : List AV} {vs : List Value} : VRs ρ μ (a :: as) vs ↔ ∃ y r, vs = y :: r ∧ VR ρ μ a y ∧ VRs ρ μ as r := by rw [VRs]

theorem VRs_length : ∀ {as : List AV} {vs : List Value}, VRs ρ μ as vs → as.length = vs.length := by
  intro as
  induction as with
  | nil => intro vs h; rw [VRs_nil] at h; subst h; rfl
  | cons a as ih => intro vs h; rw [VRs_cons] at h; obtain ⟨y, r, rfl, _, h3⟩ := h; simp [ih h3]

theorem VRs_get : ∀ {as : List AV} {vs : List Value}, VRs ρ μ as vs → ∀ (i : Nat) (a : AV), as[i]? = some a → ∃ v, vs[i]? = some v ∧ VR ρ μ a v := by
  intro as
  induction as with
  | nil => intro vs h i a e; simp at e
  | cons a as ih =>
    intro vs h i b e
    rw [VRs_cons] at h
    obtain ⟨y, r, rfl, h2, h3⟩ := h
    cases i with
    | zero => simp at e; subst e; exact ⟨y, rfl, h2⟩
    | succ i => simp at e; obtain ⟨v, hv, hr⟩ := ih h3 i b e; exact ⟨v, by simpa using hv, hr⟩

theorem VRs_of_get : ∀ {as : List AV} {vs : List Value}, as.length = vs.length → (∀ (i : Nat) (a : AV) (v : Value), as[i]? = some a → vs[i]? = some v → VR ρ μ a v) → VRs ρ μ as vs := by
  intro as
  induction as with
  | nil => intro vs h _; rw [VRs_nil]; exact List.eq_nil_of_length_eq_zero (by simpa using h.symm)
  | cons a as ih =>
    intro vs h hg
    cases vs with
    | nil => simp at h
    | cons v vs =>
      rw [VRs_cons]
      exact ⟨v, vs, rfl, hg 0 a v rfl rfl, ih (by simpa using h) fun i a' v' h1 h2 => hg (i + 1) a' v' (by simpa using h1) (by simpa using h2)⟩

theorem VRs_append {as bs : List AV} {vs us : List Value} (h : VRs ρ μ as vs) (h' : VRs ρ μ bs us) : VRs ρ μ (as ++ bs) (vs ++ us) := by
  induction as generalizing vs with
  | nil => rw [VRs_nil] at h; subst h; exact h'
  | cons a as ih => rw [VRs_cons] at h; obtain ⟨y, r, rfl, h2, h3⟩ := h; exact VRs_cons.2 ⟨y, r ++ us, rfl, h2, ih h3⟩

theorem VRs_take {as : List AV} {vs : List Value} (h : VRs ρ μ as vs) : ∀ n, VRs ρ μ (as.take n) (vs.take n) := by
  induction as generalizing vs with
  | nil => intro n; rw [VRs_nil] at h; subst h; simp [VRs_nil]
  | cons a as ih =>
    intro n
    rw [VRs_cons] at h
    obtain ⟨y, r, rfl, h2, h3⟩ := h
    cases n with
    | zero => simp [VRs_nil]
    | succ n => exact VRs_cons.2 ⟨y, r.take n, rfl, h2, ih h3 n⟩

theorem VRs_drop {as : List AV} {vs : List Value} (h : VRs ρ μ as vs) : ∀ n, VRs ρ μ (as.drop n) (vs.drop n) := by
  induction as generalizing vs with
  | nil => intro n; rw [VRs_nil] at h; subst h; simp [VRs_nil]
  | cons a as ih =>
    intro n
    cases n with
    | zero => exact h
    | succ n =>
      rw [VRs_cons] at h
      obtain ⟨y, r, rfl, _, h3⟩ := h
      exact ih h3 n

theorem VR_cells {a : AV} {v : Value} (h : VR ρ μ a v) : VRs ρ μ a.cells v.cells.toList := by
  have one : ∀ {a : AV} {v : Value}, VR ρ μ a v → VRs ρ μ [a] [v] := fun h => VRs_cons.2 ⟨_, _, rfl, h, VRs_nil.2 rfl⟩
  cases a
  case agg cs => rw [VR] at h; obtain ⟨ys, rfl, h⟩ := h; exact h
  case ptrv => have h0 := h; rw [VR] at h; obtain ⟨_, _, _, _, _, rfl⟩ := h; exact one h0
  case pick =>
    have h0 := h
    rw [VR] at h
    obtain ⟨_, _, _, h3⟩ := h
    have : v.cells.toList = [v] := by cases v <;> first | rfl | (simp [Value.oneCell'] at h3)
    rw [this]; exact one h0
  all_goals
    have h0 := h
    rw [VR] at h
    first
      | (subst h; exact one h0)
      | (obtain ⟨_, rfl, _⟩ := h; exact one h0)
      | (obtain ⟨_, _, rfl⟩ := h; exact one h0)
      | (obtain ⟨_, _, _, rfl, _⟩ := h; exact one h0)
      | (obtain ⟨_, _, _, rfl, _, _⟩ := h; exact one h0)

theorem VR_one {a : AV} {v : Value} (h : VR ρ μ a v) (h1 : a.one = true) : v.oneCell' = true := by
  cases a <;> simp only [AV.one] at h1 <;> first | (cases h1; done) | skip
  case ptrv => rw [VR] at h; obtain ⟨_, _, _, _, _, rfl⟩ := h; rfl
  case pick => rw [VR] at h; obtain ⟨_, _, _, h3⟩ := h; exact h3
  all_goals
    rw [VR] at h
    first
      | (subst h; rfl)
      | (obtain ⟨_, rfl, _⟩ := h; rfl)
      | (obtain ⟨_, _, rfl⟩ := h; rfl)
      | (obtain ⟨_, _, _, rfl, _⟩ := h; rfl)
      | (obtain ⟨_, _, _, rfl, _, _⟩ := h; rfl)

end
end Go.Ev

/- The evaluator's plain operations are the model's: constants, types, numbers, texts, comparisons; no theorem of the program yet; no conditions. -/
namespace Go.Ev
section
variable {ρ : Env} {μ : Mu}

mutual
theorem ofValue_spec : ∀ {v : Value} {a : AV}, ofValue v = some a → VR ρ μ a v
  | .bool b, a, h => by simp [ofValue] at h; subst h; rw [VR]; rfl
  | .int k n, a, h => by simp [ofValue] at h; subst h; rw [VR]; rfl
  | .string s, a, h => by
    simp [ofValue] at h; subst h
    rw [VR]
    refine ⟨s, rfl, by simp, ?_⟩
    rw [List.map_map]
    conv => lhs; rw [← List.map_id s.data.toList]
    apply List.map_congr_left
    intro b _
    simp [SE.den]
  | .pointer none, a, h => by simp [ofValue] at h; subst h; rw [VR]
  | .pointer (some _), a, h => by simp [ofValue] at h
  | .slice none 0 0, a, h => by simp [ofValue] at h; subst h; rw [VR]
  | .slice none (_ + 1) _, a, h => by simp [ofValue] at h
  | .slice none 0 (_ + 1), a, h => by simp [ofValue] at h
  | .slice (some _) _ _, a, h => by simp [ofValue] at h
  | .map none, a, h => by simp [ofValue] at h; subst h; rw [VR]
  | .map (some _), a, h => by simp [ofValue] at h
  | .func (.func f) ⟨x⟩ ⟨y⟩, a, h => by
    simp only [ofValue] at h
    split at h
    · rename_i x' y' h1 h2
      cases h
      rw [VR]
      exact ⟨.func f, ⟨x⟩, ⟨y⟩, rfl, rfl, ofValues_spec h1, ofValues_spec h2⟩
    · cases h
  | .func (.method _) ⟨_⟩ ⟨_⟩, a, h => by simp [ofValue] at h
  | .func (.methodOf _ _) ⟨_⟩ ⟨_⟩, a, h => by simp [ofValue] at h
  | .func (.via _ _ _ _) ⟨_⟩ ⟨_⟩, a, h => by simp [ofValue] at h
  | .func (.yield _) ⟨_⟩ ⟨_⟩, a, h => by simp [ofValue] at h
  | .nilFunc, a, h => by simp [ofValue] at h; subst h; rw [VR]
  | .iface t v, a, h => by
    simp only [ofValue] at h
    split at h
    · rename_i v' h1; cases h; rw [VR]; exact ⟨v, rfl, ofValue_spec h1⟩
    · cases h
  | .nilIface, a, h => by simp [ofValue] at h; subst h; rw [VR]
  | .agg ⟨cs⟩, a, h => by
    simp only [ofValue] at h
    split at h
    · rename_i v' h1; cases h; rw [VR]; exact ⟨⟨cs⟩, rfl, ofValues_spec h1⟩
    · cases h
  | .tuple ⟨cs⟩, a, h => by
    simp only [ofValue] at h
    split at h
    · rename_i v' h1; cases h; rw [VR]; exact ⟨⟨cs⟩, rfl, ofValues_spec h1⟩
    · cases h
  | .float _ _, a, h => by simp [ofValue] at h
  | .complex _ _ _, a, h => by simp [ofValue] at h
  | .chan _, a, h => by simp [ofValue] at h
theorem ofValues_spec : ∀ {vs : List Value} {as : List AV}, ofValues vs = some as → VRs ρ μ as vs
  | [], as, h => by simp [ofValues] at h; subst h; rw [VRs]
  | v :: vs, as, h => by
    simp only [ofValues] at h
    split at h
    · cases h
    · rename_i a h1
      split at h
      · cases h
      · rename_i as' h2
        cases h
        rw [VRs]
        exact ⟨v, vs, rfl, ofValue_spec h1, ofValues_spec h2⟩
end

/-! ### Types -/
variable {P : Program}

theorem tinfo_spec {t : Nat} {ti : TI} (h : tinfo P t = some ti) : ∃ i d z, P.info? t = some i ∧ P.underlying t = some d ∧ i.zero = some z ∧ ti.d = tdOf d ∧ ti.size = i.size ∧ ti.bytes = i.bytes ∧ ∀ ρ μ, VRs ρ μ ti.zero z.cells.toList := by
  unfold tinfo at h
  split at h
  · cases h
  · rename_i i hi
    split at h
    · cases h
    · rename_i d hd
      split at h
      · cases h
      · rename_i z hz
        split at h
        · cases h
        · rename_i z' hz'
          cases h
          exact ⟨i, d, z, hi, hd, hz, rfl, rfl, rfl, fun ρ μ => VR_cells (ofValue_spec hz')⟩

theorem tdR_spec {t : Nat} {ti : TI} (h : tdR P t = .ok ti) : tinfo P t = some ti := Res.ofO_eq_ok h

theorem td_bool {t : Nat} {ti : TI} (h : tinfo P t = some ti) (hd : ti.d = .bool) : P.underlying t = some .bool := by
  obtain ⟨i, d, z, _, h2, _, h4, _⟩ := tinfo_spec h
  rw [h4] at hd; rw [h2]; cases d <;> simp [tdOf] at hd; rfl
theorem td_int {t : Nat} {ti : TI} {k : IntKind} (h : tinfo P t = some ti) (hd : ti.d = .int k) : P.underlying t = some (.int k) := by
  obtain ⟨i, d, z, _, h2, _, h4, _⟩ := tinfo_spec h
  rw [h4] at hd; rw [h2]; cases d <;> simp [tdOf] at hd; rw [hd]
theorem td_str {t : Nat} {ti : TI} (h : tinfo P t = some ti) (hd : ti.d = .str) : P.underlying t = some .string := by
  obtain ⟨i, d, z, _, h2, _, h4, _⟩ := tinfo_spec h
  rw [h4] at hd; rw [h2]; cases d <;> simp [tdOf] at hd; rfl
theorem td_ptr {t : Nat} {ti : TI} {e : Nat} (h : tinfo P t = some ti) (hd : ti.d = .ptr e) : P.underlying t = some (.pointer e) := by
  obtain ⟨i, d, z, _, h2, _, h4, _⟩ := tinfo_spec h
  rw [h4] at hd; rw [h2]; cases d <;> simp [tdOf] at hd; rw [hd]
theorem td_slc {t : Nat} {ti : TI} {e : Nat} (h : tinfo P t = some ti) (hd : ti.d = .slc e) : P.underlying t = some (.slice e) := by
  obtain ⟨i, d, z, _, h2, _, h4, _⟩ := tinfo_spec h
  rw [h4] at hd; rw [h2]; cases d <;> simp [tdOf] at hd; rw [hd]
theorem td_arr {t : Nat} {ti : TI} {n e : Nat} (h : tinfo P t = some ti) (hd : ti.d = .arr n e) : P.underlying t = some (.array n e) := by
  obtain ⟨i, d, z, _, h2, _, h4, _⟩ := tinfo_spec h
  rw [h4] at hd; rw [h2]; cases d <;> simp [tdOf] at hd; rw [hd.1, hd.2]
theorem td_map {t : Nat} {ti : TI} {k e : Nat} (h : tinfo P t = some ti) (hd : ti.d = .map k e) : P.underlying t = some (.map k e) := by
  obtain ⟨i, d, z, _, h2, _, h4, _⟩ := tinfo_spec h
  rw [h4] at hd; rw [h2]; cases d <;> simp [tdOf] at hd; rw [hd.1, hd.2]
theorem td_iface {t : Nat} {ti : TI} (h : tinfo P t = some ti) (hd : ti.d = .iface) : ∃ ms, P.underlying t = some (.interface ms) := by
  obtain ⟨i, d, z, _, h2, _, h4, _⟩ := tinfo_spec h
  rw [h4] at hd; rw [h2]; cases d <;> simp [tdOf] at hd; exact ⟨_, rfl⟩
theorem td_struct {t : Nat} {ti : TI} {fs : List (Nat × Nat × Bool)} (h : tinfo P t = some ti) (hd : ti.d = .struct fs) :
    ∃ fields : Array Field, P.underlying t = some (.struct fields) ∧ fs = fields.toList.map fun f => (f.type, f.offset, decide (f.name ≠ "_")) := by
  obtain ⟨i, d, z, _, h2, _, h4, _⟩ := tinfo_spec h
  rw [h4] at hd; rw [h2]; cases d <;> simp [tdOf] at hd; exact ⟨_, rfl, by simp [← hd]⟩

theorem run_size {t : Nat} {ti : TI} (h : tinfo P t = some ti) (w : World) : (sizeOf t).run P w = .ok ti.size w := by
  obtain ⟨i, d, z, h1, _, _, _, h5, _⟩ := tinfo_spec h
  simp [sizeOf, typeInfo, h1, h5]
theorem run_isAgg {t : Nat} {ti : TI} (h : tinfo P t = some ti) (w : World) : (isAgg t).run P w = .ok ti.d.agg w := by
  obtain ⟨i, d, z, _, h2, _, h4, _⟩ := tinfo_spec h
  simp only [isAgg, underlying, h4]
  cases d <;> simp [tdOf, TD.agg, h2]
theorem run_und {t : Nat} {d : TypeDesc} (h : P.underlying t = some d) (w : World) : (underlying t).run P w = .ok d w := by simp [underlying, h]

/-! ### Operands -/
def EaR (ρ : Env) (μ : Mu) (op : Op) (ea : Operand → Res AV) (rv : Operand → Value) : Prop := ∀ x ∈ op.operands, ∀ a, ea x = .ok a → VR ρ μ a (rv x)

theorem argsA_spec {ea : Operand → Res AV} {rv : Operand → Value} : ∀ {xs : List Operand} {as : List AV}, (∀ x ∈ xs, ∀ a, ea x = .ok a → VR ρ μ a (rv x)) → argsA ea xs = .ok as → VRs ρ μ as (xs.map rv) := by
  intro xs
  induction xs with
  | nil => intro as _ h; simp [argsA] at h; subst h; exact VRs_nil.2 rfl
  | cons x xs ih =>
    intro as hx h
    simp only [argsA] at h
    obtain ⟨a, h1, h⟩ := Res.bind_eq_ok h
    obtain ⟨as', h2, h⟩ := Res.bind_eq_ok h
    cases h
    exact VRs_cons.2 ⟨rv x, xs.map rv, rfl, hx x (by simp) a h1, ih (fun y hy => hx y (by simp [hy])) h2⟩

def PartsR (ρ : Env) (μ : Mu) : List (Nat × AV) → List (Nat × Value) → Prop
  | [], vs => vs = []
  | (i, a) :: as, vs => ∃ v r, vs = (i, v) :: r ∧ VR ρ μ a v ∧ PartsR ρ μ as r

theorem partsA_spec {ea : Operand → Res AV} {rv : Operand → Value} : ∀ {xs : List (Nat × Operand)} {as : List (Nat × AV)}, (∀ x ∈ xs, ∀ a, ea x.2 = .ok a → VR ρ μ a (rv x.2)) → partsA ea xs = .ok as → PartsR ρ μ as (xs.map fun x => (x.1, rv x.2)) := by
  intro xs
  induction xs with
  | nil => intro as _ h; simp [partsA] at h; subst h; simp [PartsR]
  | cons x xs ih =>
    obtain ⟨i, x⟩ := x
    intro as hx h
    simp only [partsA] at h
    obtain ⟨a, h1, h⟩ := Res.bind_eq_ok h
    obtain ⟨as', h2, h⟩ := Res.bind_eq_ok h
    cases h
    exact ⟨rv x, _, rfl, hx (i, x) (by simp) a h1, ih (fun y hy => hx y (by simp [hy])) h2⟩

/-! ### Numbers -/
variable {pc : PC} {w : World}

theorem asI_spec {a : AV} {v : Value} {k : IntKind} {e : SE} (hp : pc.holds ρ) (hv : VR ρ μ a v) (h : asI pc a = .ok (k, e)) : v = .int k (e.den ρ) := by
  unfold asI at h
  split at h
  · cases h; rw [VR] at hv; rw [hv, nrm_spec hp]
  · cases h

theorem bitOp_eq (o : BOp) (op : BinOp) (k : IntKind) (x y : Int) (h : op = (match o with | .and => .and | .or => .or | .xor => .xor | .andNot => .andNot)) :
    (Op.intBits op k x y).run P w = .ok (.int k (bitOp o k x y)) w := by subst h; cases o <;> simp [Op.intBits, bitOp]

theorem run_shl (k yk : IntKind) (x : Int) (n : Nat) : (Op.shift .shl k x yk (n : Int)).run P w = .ok (.int k (k.wrap (x * 2 ^ (min n k.bits)))) w := by
  have h : ¬ ((n : Int) < 0) := by omega
  simp [Op.shift, h]
theorem run_shr (k yk : IntKind) (x : Int) (n : Nat) : (Op.shift .shr k x yk (n : Int)).run P w = .ok (.int k (x.fdiv (2 ^ (min n k.bits)))) w := by
  have h : ¬ ((n : Int) < 0) := by omega
  simp [Op.shift, h]

theorem min_ble (n m : Nat) : (bif Nat.ble n m then n else m) = min n m := by
  cases h : Nat.ble n m with
  | true => have := Nat.le_of_ble_eq_true h; simp [Nat.min_eq_left this]
  | false => have : ¬ n ≤ m := fun e => by rw [Nat.ble_eq_true_of_le e] at h; cases h
             simp [Nat.min_eq_right (by omega : m ≤ n)]

theorem same_spec {s : Bool} {v : Res AV} {r : AV} (h : same? s v = .ok r) : s = true ∧ v = .ok r := by
  cases s with
  | false => cases h
  | true => exact ⟨rfl, h⟩

theorem shA_spec {l : Bool} {k yk : IntKind} {a b : SE} {r : AV} (h : shA l k a b = .ok r) :
    ∃ y, (Op.shift (if l then .shl else .shr) k (a.den ρ) yk (b.den ρ)).run P w = .ok y w ∧ VR ρ μ r y := by
  unfold shA at h
  split at h
  · rename_i n
    simp only [min_ble] at h
    have hb : (SE.lit (Int.ofNat n)).den ρ = (n : Int) := rfl
    rw [hb]
    cases l with
    | true => cases h; exact ⟨_, run_shl _ _ _ _, by rw [VR, wrapE_den, shlE_den]⟩
    | false => cases h; exact ⟨_, run_shr _ _ _ _, by rw [VR, shrE_den]⟩
  · cases h

theorem divA_spec {q : Bool} {k : IntKind} {a b : SE} {r : AV} (hp : pc.holds ρ) (h : divA pc q k a b = .ok r) :
    ∃ y, (Op.intDiv (if q then .quo else .rem) k (a.den ρ) (b.den ρ)).run P w = .ok y w ∧ VR ρ μ r y := by
  unfold divA at h
  split at h
  · rename_i h1
    have h0 := dec_spec hp h1
    rw [eqE_den] at h0
    have hb : ¬ b.den ρ = 0 := by simpa [SE.den] using h0
    cases q with
    | true => cases h; exact ⟨.int k (k.wrap ((a.den ρ).tdiv (b.den ρ))), by simp [Op.intDiv, hb], by rw [VR, wrapE_den, quoE_den]⟩
    | false => cases h; exact ⟨.int k ((a.den ρ).tmod (b.den ρ)), by simp [Op.intDiv, hb], by rw [VR, remE_den]⟩
  · cases h
  · cases h

theorem binInt_spec {op : BinOp} {k l : IntKind} {a b : SE} {r : AV} (hp : pc.holds ρ) (h : binInt pc op k (ikBeq k l) a b = .ok r) (t : Nat) :
    ∃ y, (binOp op t (.int k (a.den ρ)) (.int l (b.den ρ))).run P w = .ok y w ∧ VR ρ μ r y := by
  cases op
  case shl => exact shA_spec (l := true) (yk := l) h
  case shr => exact shA_spec (l := false) (yk := l) h
  all_goals
    change same? _ _ = _ at h
    obtain ⟨h1, h2⟩ := same_spec h
    clear h
    have hkl := ikBeq_eq h1
    subst hkl
    simp only [binOp, ne_eq, not_true_eq_false, if_false]
  case quo => exact divA_spec (q := true) hp h2
  case rem => exact divA_spec (q := false) hp h2
  all_goals (cases h2)
  case add => exact ⟨_, rfl, by rw [VR, wrapE_den, addE_den]⟩
  case sub => exact ⟨_, rfl, by rw [VR, wrapE_den, subE_den]⟩
  case mul => exact ⟨_, rfl, by rw [VR, wrapE_den, mulE_den]⟩
  case and => exact ⟨_, bitOp_eq .and _ k _ _ rfl, by rw [VR, bitsE_den]⟩
  case or => exact ⟨_, bitOp_eq .or _ k _ _ rfl, by rw [VR, bitsE_den]⟩
  case xor => exact ⟨_, bitOp_eq .xor _ k _ _ rfl, by rw [VR, bitsE_den]⟩
  case andNot => exact ⟨_, bitOp_eq .andNot _ k _ _ rfl, by rw [VR, bitsE_den]⟩
  case eql => exact ⟨_, rfl, by rw [VR, eqE_den]⟩
  case neq => exact ⟨_, rfl, by rw [VR, notB_den, eqE_den]; rfl⟩
  case lss => exact ⟨_, rfl, by rw [VR, ltE_den]⟩
  case leq => exact ⟨_, rfl, by rw [VR, leE_den]⟩
  case gtr => exact ⟨_, rfl, by rw [VR, ltE_den]⟩
  case geq => exact ⟨_, rfl, by rw [VR, leE_den]⟩

theorem unA_spec {op : UnOp} {a r : AV} {v : Value} (hp : pc.holds ρ) (hv : VR ρ μ a v) (h : unA pc op a = .ok r) : ∃ y, (Op.unary op v).run P w = .ok y w ∧ VR ρ μ r y := by
  unfold unA at h
  split at h
  · cases h; rw [VR] at hv; subst hv; exact ⟨_, rfl, by rw [VR, notB_den]⟩
  · cases h; rw [VR] at hv; subst hv; exact ⟨_, rfl, by rw [VR, wrapE_den, subE_den, nrm_spec hp]; rfl⟩
  · cases h; rw [VR] at hv; subst hv
    rename_i k e
    exact ⟨_, bitOp_eq .xor .xor k _ _ rfl, by rw [VR, bitsE_den, nrm_spec hp]; rfl⟩
  · cases h

end
end Go.Ev

/- The evaluator's texts, comparisons, parts, places and bounds are the model's; no theorem of the program yet; no conditions. -/
namespace Go.Ev
section
variable {ρ : Env} {μ : Mu} {P : Program} {pc : PC} {w : World}

def byteOf (ρ : Env) (e : SE) : UInt8 := UInt8.ofNat (e.den ρ).toNat

theorem byteOf_inj {a b : SE} (ha : 0 ≤ a.den ρ ∧ a.den ρ ≤ 255) (hb : 0 ≤ b.den ρ ∧ b.den ρ ≤ 255) : byteOf ρ a = byteOf ρ b ↔ a.den ρ = b.den ρ := by
  constructor
  · intro h
    have := congrArg UInt8.toNat h
    simp only [byteOf, UInt8.toNat_ofNat'] at this
    omega
  · intro h; simp [byteOf, h]

theorem strEq_spec (hp : pc.holds ρ) : ∀ {as bs : List SE} {r : SB}, strEq pc as bs = .ok r → r.den ρ = (as.map (byteOf ρ) == bs.map (byteOf ρ)) := by
  intro as
  induction as with
  | nil => intro bs r h; cases bs <;> (simp only [strEq] at h; cases h; simp [SB.den])
  | cons a as ih =>
    intro bs r h
    cases bs with
    | nil => simp only [strEq] at h; cases h; simp [SB.den]
    | cons b bs =>
      simp only [strEq] at h
      rcases cond_eq h with ⟨h0, h⟩ | ⟨_, h⟩
      · rw [SE.beq_eq h0, ih h]
        simp
      rcases cond_eq h with ⟨h1, h⟩ | ⟨_, h⟩
      · simp only [Bool.and_eq_true] at h1
        have ha := inByte_spec hp h1.1
        have hb := inByte_spec hp h1.2
        have he : (eqE (nrm pc a) (nrm pc b)).den ρ = (byteOf ρ a == byteOf ρ b) := by
          rw [eqE_den, nrm_spec hp, nrm_spec hp, Bool.eq_iff_iff, beq_iff_eq, beq_iff_eq]
          exact (byteOf_inj ha hb).symm
        have key : ((a :: as).map (byteOf ρ) == (b :: bs).map (byteOf ρ)) = ((byteOf ρ a == byteOf ρ b) && (as.map (byteOf ρ) == bs.map (byteOf ρ))) := rfl
        rw [key, ← he]
        split at h
        · rename_i hf
          cases h
          rw [hf]; simp [SB.den]
        · split at h
          · rename_i r' hr; cases h; rw [andB_den, ih hr]
          · rename_i h2; exact absurd h (fun e => h2 _ e)
      · cases h

theorem SR_toList {n : Nat} {bs : List SE} {s : ByteArray} (h : SR ρ n bs s) : s.toList = bs.map (byteOf ρ) := by
  rw [ByteArray.toList_eq]; exact h.2

theorem SR_size {n : Nat} {bs : List SE} {s : ByteArray} (h : SR ρ n bs s) : s.size = n := by
  have h1 := congrArg List.length h.2
  simp only [List.length_map, h.1, Array.length_toList] at h1
  exact h1

theorem SR_ne {n m : Nat} {a b : List SE} {s u : ByteArray} (h : SR ρ n a s) (h' : SR ρ m b u) (hne : n ≠ m) : (s.toList == u.toList) = false := by
  rw [beq_eq_false_iff_ne]
  intro e
  have h1 := congrArg List.length e
  rw [SR_toList h, SR_toList h', List.length_map, List.length_map, h.1, h'.1] at h1
  exact hne h1

/-! ### Parts -/
theorem partA_spec {t : Nat} {ti : TI} {off : Nat} {cs : List AV} {xs : Array Value} {r : AV} (ht : tinfo P t = some ti) (hv : VRs ρ μ cs xs.toList) (h : partA ti off cs = some r) :
    ∃ y, (part t xs off).run P w = .ok y w ∧ VR ρ μ r y := by
  unfold partA at h
  rcases cond_eq h with ⟨h1, h⟩ | ⟨h1, h⟩
  · rcases cond_eq h with ⟨h2, h⟩ | ⟨_, h⟩
    · cases h
      refine ⟨.agg (xs.extract off (off + ti.size)), by simp [part, run_isAgg ht, h1, run_size ht], ?_⟩
      rw [VR]
      refine ⟨_, rfl, ?_⟩
      have := VRs_take (VRs_drop hv off) ti.size
      simpa [Array.toList_extract, List.extract_eq_take_drop] using this
    · cases h
  · have h3 : cs[off]? = some r := by rw [← List.head?_drop]; exact h
    obtain ⟨v, hv1, hv2⟩ := VRs_get hv off r h3
    refine ⟨v, ?_, hv2⟩
    have h4 : xs[off]? = some v := by simpa using hv1
    simp [part, run_isAgg ht, h1, h4]

/-! ### Equality -/
def EqvOK (ρ : Env) (μ : Mu) (P : Program) (d : Nat) (ev : Nat → AV → AV → Res SB) : Prop :=
  ∀ t x y r, ev t x y = .ok r → ∀ u v, VR ρ μ x u → VR ρ μ y v → ∀ w, (Op.equalIn d t u v).run P w = .ok (r.den ρ) w

theorem eqfs_spec {d : Nat} {ev : Nat → AV → AV → Res SB} (hev : EqvOK ρ μ P d ev) (w : World) : ∀ {fs : List Field} {as bs : List AV} {r : SB} {xs ys : Array Value},
    eqfs P ev (fs.map fun f => (f.type, f.offset, decide (f.name ≠ "_"))) as bs = .ok r → VRs ρ μ as xs.toList → VRs ρ μ bs ys.toList → (Op.eqFields d xs ys fs).run P w = .ok (r.den ρ) w := by
  intro fs
  induction fs with
  | nil => intro as bs r xs ys h _ _; simp only [List.map_nil, eqfs] at h; cases h; simp [Op.eqFields, SB.den]
  | cons f fs ih =>
    intro as bs r xs ys h hx hy
    simp only [List.map_cons, eqfs] at h
    rcases cond_eq h with ⟨h1, h⟩ | ⟨h1, h⟩
    · have hn : f.name ≠ "_" := by simpa using h1
      split at h
      · cases h
      · rename_i ti hti
        split at h
        · rename_i x y hpx hpy
          obtain ⟨u, hu1, hu2⟩ := partA_spec (w := w) hti hx hpx
          obtain ⟨v, hv1, hv2⟩ := partA_spec (w := w) hti hy hpy
          split at h
          · rename_i a ha
            have e1 := hev _ _ _ _ ha u v hu2 hv2 w
            split at h
            · rename_i b hb
              cases h
              have e2 := ih hb hx hy
              simp only [Op.eqFields, hn, ne_eq, not_false_eq_true, if_true, Sem.run_bind, hu1, hv1, e1, Result.andThen_ok, Sem.run_ite, andB_den]
              cases a.den ρ <;> simp [e2]
            · rename_i h2; exact absurd h (fun e => h2 _ e)
          · rename_i h2; exact absurd h (fun e => h2 _ e)
        · cases h
    · have hn : ¬ f.name ≠ "_" := by simpa using h1
      simp only [Op.eqFields, hn, if_false]
      exact ih h hx hy

theorem eqv_spec (hp : pc.holds ρ) : ∀ (f d : Nat), f ≤ d → EqvOK ρ μ P d (eqv P pc f) := by
  intro f
  induction f with
  | zero => intro d _ t x y r h; cases h
  | succ f ih =>
    intro d hd t x y r h u v hu hv w
    obtain ⟨d, rfl⟩ : ∃ e, d = e + 1 := ⟨d - 1, by omega⟩
    simp only [eqv] at h
    split at h
    · cases h
    · rename_i ti hti
      split at h
      · -- bool
        rename_i hd'
        have ht := td_bool hti hd'
        rw [VR] at hu hv
        subst hu; subst hv
        rename_i a b
        have goal : ∀ r : SB, r.den ρ = (a.den ρ == b.den ρ) → (Op.equalIn (d + 1) t (.bool (a.den ρ)) (.bool (b.den ρ))).run P w = .ok (r.den ρ) w := fun r e => by
          rw [e]; simp [Op.equalIn, run_und ht]
        apply goal
        split at h
        · cases h; simp [SB.den]
        · cases h; rw [notB_den]; simp [SB.den]
        · cases h; simp [SB.den]
        · cases h; rw [notB_den]; simp [SB.den]
        · split at h
          · rename_i h1; cases h; rw [dec_spec hp h1]; simp
          · rename_i h1; cases h; rw [dec_spec hp h1, notB_den]; simp
          · cases h
      · -- int
        rename_i k' k a l b hd'
        rcases cond_eq h with ⟨h1, h2⟩ | ⟨_, h2⟩
        · clear h
          have := ikBeq_eq h1; subst this
          cases h2
          rw [VR] at hu hv
          subst hu; subst hv
          simp [Op.equalIn, run_und (td_int hti hd'), eqE_den, nrm_spec hp]
        · cases h2
      · -- text
        rename_i n a m b hd'
        rw [VR] at hu hv
        obtain ⟨s, rfl, hs⟩ := hu
        obtain ⟨u, rfl, hu⟩ := hv
        have e : (Op.equalIn (d + 1) t (.string s) (.string u)).run P w = .ok (s.toList == u.toList) w := by
          rw [← beq_toListBytes]; simp [Op.equalIn, run_und (td_str hti hd')]
        rw [e]
        rcases cond_eq h with ⟨h1, h⟩ | ⟨h1, h⟩
        · rw [strEq_spec hp h, SR_toList hs, SR_toList hu]
        · cases h
          rw [SR_ne hs hu (fun e => by rw [e] at h1; simp at h1)]; rfl
      case h_18 =>
        rename_i fs xs ys hd'
        rcases cond_eq h with ⟨_, h⟩ | ⟨h1, h⟩
        · cases h
        · obtain ⟨fields, hf, rfl⟩ := td_struct hti hd'
          rw [VR] at hu hv
          obtain ⟨us, rfl, hu⟩ := hu
          obtain ⟨vs, rfl, hv⟩ := hv
          have hfo : P.fieldsOf t = fields := by simp [Program.fieldsOf, hf]
          rw [run_equalIn_struct w d t us vs (by rw [hfo]; exact hf) h1, hfo]
          exact eqfs_spec (ih d (by omega)) w h hu hv
      case h_19 => cases h
      all_goals
        rename_i hd'
        cases h
        rw [VR] at hu; rw [VR] at hv
        first
          | (subst hu; subst hv; first
              | simp [Op.equalIn, run_und (td_ptr hti hd'), SB.den]
              | simp [Op.equalIn, run_und (td_slc hti hd'), SB.den]
              | simp [Op.equalIn, run_und (td_map hti hd'), SB.den]
              | (obtain ⟨ms, hm⟩ := td_iface hti hd'; simp [Op.equalIn, run_und hm, SB.den]))
          | (subst hu; first
              | (obtain ⟨p, _, rfl⟩ := hv; first
                  | simp [Op.equalIn, run_und (td_ptr hti hd'), SB.den]
                  | simp [Op.equalIn, run_und (td_map hti hd'), SB.den]
                  | simp [Op.equalIn, run_und (td_slc hti hd'), SB.den])
              | (obtain ⟨p, c, _, rfl, _⟩ := hv; simp [Op.equalIn, run_und (td_slc hti hd'), SB.den])
              | (obtain ⟨p, c, rfl⟩ := hv; simp [Op.equalIn, run_und (td_slc hti hd'), SB.den])
              | (obtain ⟨p, rfl, _⟩ := hv; obtain ⟨ms, hm⟩ := td_iface hti hd'; simp [Op.equalIn, run_und hm, SB.den]))
          | (subst hv; first
              | (obtain ⟨p, _, rfl⟩ := hu; first
                  | simp [Op.equalIn, run_und (td_ptr hti hd'), SB.den]
                  | simp [Op.equalIn, run_und (td_map hti hd'), SB.den]
                  | simp [Op.equalIn, run_und (td_slc hti hd'), SB.den])
              | (obtain ⟨p, c, _, rfl, _⟩ := hu; simp [Op.equalIn, run_und (td_slc hti hd'), SB.den])
              | (obtain ⟨p, c, rfl⟩ := hu; simp [Op.equalIn, run_und (td_slc hti hd'), SB.den])
              | (obtain ⟨p, rfl, _⟩ := hu; obtain ⟨ms, hm⟩ := td_iface hti hd'; simp [Op.equalIn, run_und hm, SB.den]))
end
end Go.Ev

/- The evaluator's operations that leave the heap alone are the model's; no theorem of the program yet; no conditions. -/
namespace Go.Ev
section
variable {ρ : Env} {μ : Mu} {P : Program} {pc : PC} {w : World}

/-! ### Binary operations -/
def noNumV : Value → Bool
  | .int .. | .float .. | .complex .. | .string .. => false
  | _ => true

theorem binOp_eql {t : Nat} {u v : Value} (hu : noNumV u = true) : binOp .eql t u v = (do pure (.bool (← Op.equal t u v))) := by
  cases u <;> simp only [noNumV] at hu <;> first | (cases hu; done) | (cases v <;> rfl)
theorem binOp_neq {t : Nat} {u v : Value} (hu : noNumV u = true) : binOp .neq t u v = (do pure (.bool (!(← Op.equal t u v)))) := by
  cases u <;> simp only [noNumV] at hu <;> first | (cases hu; done) | (cases v <;> rfl)

theorem noNum_V {a : AV} {v : Value} (h : VR ρ μ a v) (hn : a.noNum = true) : noNumV v = true := by
  cases a <;> simp only [AV.noNum] at hn <;> first | (cases hn; done) | skip
  case ptrv => rw [VR] at h; obtain ⟨_, _, _, _, _, rfl⟩ := h; rfl
  all_goals
    rw [VR] at h
    first
      | (subst h; rfl)
      | (obtain ⟨_, rfl, _⟩ := h; rfl)
      | (obtain ⟨_, _, rfl⟩ := h; rfl)
      | (obtain ⟨_, _, _, rfl, _⟩ := h; rfl)
      | (obtain ⟨_, _, _, rfl, _, _⟩ := h; rfl)

theorem binEq_spec {op : BinOp} {t : Nat} {a b r : AV} {u v : Value} (hp : pc.holds ρ) (hu : VR ρ μ a u) (hv : VR ρ μ b v) (hn : noNumV u = true) (h : binEq P pc op t a b = .ok r) :
    ∃ z, (binOp op t u v).run P w = .ok z w ∧ VR ρ μ r z := by
  have key : ∀ s, eqv P pc 20 t a b = .ok s → (Op.equal t u v).run P w = .ok (s.den ρ) w := fun s hs => eqv_spec hp 20 10000 (by omega) t a b s hs u v hu hv w
  unfold binEq at h
  split at h
  · obtain ⟨s, h1, h2⟩ := Res.bind_eq_ok h
    cases h2
    exact ⟨.bool (s.den ρ), by rw [binOp_eql hn]; simp [key s h1], by rw [VR]⟩
  · obtain ⟨s, h1, h2⟩ := Res.bind_eq_ok h
    cases h2
    exact ⟨.bool (!s.den ρ), by rw [binOp_neq hn]; simp [key s h1], by rw [VR, notB_den]⟩
  · cases h

theorem binStr_spec {op : BinOp} {t n m : Nat} {a b : List SE} {s u : ByteArray} {r : AV} (hp : pc.holds ρ) (hs : SR ρ n a s) (hu : SR ρ m b u) (h : binStr pc op n m a b = .ok r) :
    ∃ z, (binOp op t (.string s) (.string u)).run P w = .ok z w ∧ VR ρ μ r z := by
  have e0 : ∀ op, binOp op t (.string s) (.string u) = Op.stringOp op s u := fun op => by cases op <;> rfl
  rw [e0]
  have eq : ∀ q, strEq pc a b = .ok q → q.den ρ = (s.toList == u.toList) := fun q hq => by rw [strEq_spec hp hq, SR_toList hs, SR_toList hu]
  unfold binStr at h
  split at h
  · rcases cond_eq h with ⟨h1, h2⟩ | ⟨_, h2⟩
    · clear h
      cases h2
      have hle : n + m ≤ 4611686018427387904 := Nat.le_of_ble_eq_true h1
      refine ⟨.string (s ++ u), run_string_add_sum w s u (by rw [SR_size hs, SR_size hu]; omega), ?_⟩
      rw [VR]
      refine ⟨_, rfl, by simp [hs.1, hu.1], ?_⟩
      have : (s ++ u).data = s.data ++ u.data := by
        rw [← ByteArray.append_eq]; exact ByteArray.data_append ..
      rw [this, Array.toList_append, hs.2, hu.2, List.map_append]
    · cases h2
  · rcases cond_eq h with ⟨h1, h2⟩ | ⟨h1, h2⟩
    · clear h
      obtain ⟨q, h3, h4⟩ := Res.bind_eq_ok h2
      cases h4
      exact ⟨_, rfl, by rw [VR, eq q h3]⟩
    · clear h
      cases h2
      exact ⟨_, rfl, by rw [VR, SR_ne hs hu (fun e => by rw [e] at h1; simp at h1)]; rfl⟩
  · rcases cond_eq h with ⟨h1, h2⟩ | ⟨h1, h2⟩
    · clear h
      obtain ⟨q, h3, h4⟩ := Res.bind_eq_ok h2
      cases h4
      exact ⟨_, rfl, by rw [VR, notB_den, eq q h3]⟩
    · clear h
      cases h2
      exact ⟨_, rfl, by rw [VR, SR_ne hs hu (fun e => by rw [e] at h1; simp at h1)]; rfl⟩
  · cases h

theorem guard_other {op : BinOp} {t : Nat} {x y : Operand} {u v : Value} (h : ¬ (∃ a b, u = .agg a ∧ v = .agg b)) (h' : ¬ (u = .nilIface ∧ v = .nilIface)) :
    (eqGuard op t x y u v).run P w = .ok () w := by
  cases u <;> cases v <;> first
    | exact absurd ⟨_, _, rfl, rfl⟩ h
    | exact absurd ⟨rfl, rfl⟩ h'
    | (cases op <;> rfl)

theorem binA_spec {op : BinOp} {t : Nat} {x y : Operand} {a b r : AV} {u v : Value} (hp : pc.holds ρ) (hu : VR ρ μ a u) (hv : VR ρ μ b v) (h : binA P pc op t (isConstA x || isConstA y) a b = .ok r) :
    ∃ z, (do eqGuard op t x y u v; binOp op t u v : Sem Value).run P w = .ok z w ∧ VR ρ μ r z := by
  have fin : (eqGuard op t x y u v).run P w = .ok () w → (∃ z, (binOp op t u v).run P w = .ok z w ∧ VR ρ μ r z) → ∃ z, (do eqGuard op t x y u v; binOp op t u v : Sem Value).run P w = .ok z w ∧ VR ρ μ r z :=
    fun e ⟨z, h1, h2⟩ => ⟨z, by simp [e, h1], h2⟩
  unfold binA at h
  split at h
  · split at h
    · rw [VR] at hu; rw [VR] at hv
      subst hu; subst hv
      refine fin (guard_other (by simp) (by simp)) ?_
      have := binInt_spec (μ := μ) (P := P) (w := w) hp h t
      simpa [nrm_spec hp] using this
    · cases h
  · split at h
    · rw [VR] at hu; rw [VR] at hv
      obtain ⟨s, rfl, hs⟩ := hu
      obtain ⟨s', rfl, hs'⟩ := hv
      exact fin (guard_other (by simp) (by simp)) (binStr_spec hp hs hs' h)
    · cases h
  · unfold binOther at h
    rcases cond_eq h with ⟨h1, h2⟩ | ⟨_, h2⟩
    · clear h
      simp only [Bool.and_eq_true] at h1
      have hnu := noNum_V hu h1.1
      rcases cond_eq h2 with ⟨_, h3⟩ | ⟨h3, h4⟩
      · cases h3
      · clear h2
        rcases cond_eq h4 with ⟨_, h5⟩ | ⟨h5, h6⟩
        · cases h5
        · clear h4
          refine fin ?_ (binEq_spec hp hu hv hnu h6)
          by_cases hagg : ∃ p q, u = .agg p ∧ v = .agg q
          · obtain ⟨p, q, rfl, rfl⟩ := hagg
            have ha : a.isAgg = true := by
              cases a <;> rw [VR] at hu <;> first | rfl | (exfalso; first | (cases hu; done) | (obtain ⟨_, hu, _⟩ := hu; cases hu; done) | (obtain ⟨_, _, hu⟩ := hu; cases hu; done) | (obtain ⟨_, _, _, hu, _⟩ := hu; cases hu; done) | (obtain ⟨_, _, _, _, _, hu⟩ := hu; cases hu; done) | (exact absurd h1.1 (by simp [AV.noNum])))
            have hb : b.isAgg = true := by
              cases b <;> rw [VR] at hv <;> first | rfl | (exfalso; first | (cases hv; done) | (obtain ⟨_, hv, _⟩ := hv; cases hv; done) | (obtain ⟨_, _, hv⟩ := hv; cases hv; done) | (obtain ⟨_, _, _, hv, _⟩ := hv; cases hv; done) | (obtain ⟨_, _, _, _, _, hv⟩ := hv; cases hv; done) | (exact absurd h1.2 (by simp [AV.noNum])))
            rw [ha, hb] at h3
            exact run_eqGuard_agg w op t x y p q (by simpa using h3)
          · by_cases hnil : u = .nilIface ∧ v = .nilIface
            · obtain ⟨rfl, rfl⟩ := hnil
              have ha : a.isNili = true := by
                cases a <;> rw [VR] at hu <;> first | rfl | (exfalso; first | (cases hu; done) | (obtain ⟨_, hu, _⟩ := hu; cases hu; done) | (obtain ⟨_, _, hu⟩ := hu; cases hu; done) | (obtain ⟨_, _, _, hu, _⟩ := hu; cases hu; done) | (obtain ⟨_, _, _, _, _, hu⟩ := hu; cases hu; done) | (exact absurd h1.1 (by simp [AV.noNum])))
              have hb : b.isNili = true := by
                cases b <;> rw [VR] at hv <;> first | rfl | (exfalso; first | (cases hv; done) | (obtain ⟨_, hv, _⟩ := hv; cases hv; done) | (obtain ⟨_, _, hv⟩ := hv; cases hv; done) | (obtain ⟨_, _, _, hv, _⟩ := hv; cases hv; done) | (obtain ⟨_, _, _, _, _, hv⟩ := hv; cases hv; done) | (exact absurd h1.2 (by simp [AV.noNum])))
              rw [ha, hb] at h5
              have hc : (isConstA x || isConstA y) = true := by
                cases hcc : (isConstA x || isConstA y)
                · rw [hcc] at h5; simp at h5
                · rfl
              cases x <;> cases y <;> simp only [isConstA, Bool.or_false, Bool.or_true] at hc <;> first | (cases hc; done) | (cases op <;> rfl)
            · exact guard_other hagg hnil
    · cases h2

/-! ### Fields and elements -/
theorem nth_eq {α : Type} : ∀ (l : List α) (n : Nat), nth l n = l[n]? := by
  intro l
  induction l with
  | nil => intro n; simp [nth]
  | cons x l ih => intro n; cases n <;> simp [nth, ih]

theorem fieldR_spec {s f o : Nat} {tf : TI} (h : fieldR P s f = .ok (tf, o)) : ∃ (fields : Array Field) (fd : Field), P.underlying s = some (.struct fields) ∧ fields[f]? = some fd ∧ tinfo P fd.type = some tf ∧ fd.offset = o := by
  unfold fieldR at h
  obtain ⟨ti, h1, h⟩ := Res.bind_eq_ok h
  split at h
  · rename_i fs hd
    obtain ⟨fields, hf, rfl⟩ := td_struct (tdR_spec h1) hd
    split at h
    · rename_i t o' b hn
      obtain ⟨tf', h2, h⟩ := Res.bind_eq_ok h
      cases h
      rw [nth_eq, List.getElem?_map] at hn
      cases hfd : fields.toList[f]? with
      | none => rw [hfd] at hn; cases hn
      | some fd =>
        rw [hfd] at hn
        cases hn
        exact ⟨fields, fd, hf, by simpa using hfd, tdR_spec h2, rfl⟩
    · cases h
  · cases h

theorem addr_add (b o n : Nat) : (⟨b, o, none⟩ : Addr).add n = ⟨b, o + n, none⟩ := by unfold Addr.add; split <;> simp_all

theorem aFieldAddr_spec {s f : Nat} {a r : AV} {v : Value} (hv : VR ρ μ a v) (h : aFieldAddr P s f a = .ok r) : ∃ y, (Instr.fieldAt s v f).run P w = .ok y w ∧ VR ρ μ r y := by
  unfold aFieldAddr at h
  split at h
  · rename_i id off
    obtain ⟨⟨tf, o⟩, h1, h2⟩ := Res.bind_eq_ok h
    obtain ⟨fields, fd, h3, h4, h5, rfl⟩ := fieldR_spec h1
    rcases cond_eq h2 with ⟨h6, h7⟩ | ⟨_, h7⟩
    · cases h7
      rw [VR] at hv
      obtain ⟨p, hp, rfl⟩ := hv
      have hs : tf.size ≠ 0 := by have := Nat.le_of_ble_eq_true h6; omega
      refine ⟨.pointer (some ⟨p.1, p.2.1 + off + fd.offset, none⟩), ?_, ?_⟩
      · simp [Instr.fieldAt, run_und h3, h4, Instr.sureAddr, fieldPlace, run_size h5, hs, addr_add]
      · rw [VR]; exact ⟨p, hp, by rw [Nat.add_assoc]⟩
    · cases h7
  · rename_i id off es n e
    obtain ⟨⟨tf, o⟩, h1, h2⟩ := Res.bind_eq_ok h
    obtain ⟨fields, fd, h3, h4, h5, rfl⟩ := fieldR_spec h1
    rcases cond_eq h2 with ⟨h6, h7⟩ | ⟨_, h7⟩
    · cases h7
      rw [VR] at hv
      obtain ⟨p, j, hp, hj, hjn, rfl⟩ := hv
      have hs : tf.size ≠ 0 := by have := Nat.le_of_ble_eq_true h6; omega
      refine ⟨.pointer (some ⟨p.1, p.2.1 + (off + j * es) + fd.offset, none⟩), ?_, ?_⟩
      · simp [Instr.fieldAt, run_und h3, h4, Instr.sureAddr, fieldPlace, run_size h5, hs, addr_add]
      · rw [VR]; exact ⟨p, j, hp, hj, hjn, by congr 3; omega⟩
    · cases h7
  · cases h

theorem aField_spec {s f : Nat} {a r : AV} {v : Value} (hv : VR ρ μ a v) (h : aField P s f a = .ok r) : ∃ y, (Instr.field s v f).run P w = .ok y w ∧ VR ρ μ r y := by
  unfold aField at h
  split at h
  · obtain ⟨⟨tf, o⟩, h1, h2⟩ := Res.bind_eq_ok h
    obtain ⟨fields, fd, h3, h4, h5, rfl⟩ := fieldR_spec h1
    rw [VR] at hv
    obtain ⟨ys, rfl, hv⟩ := hv
    obtain ⟨y, hy, hr⟩ := partA_spec (w := w) h5 hv (Res.ofO_eq_ok h2)
    exact ⟨y, by simp [Instr.field, run_und h3, h4, asAgg, hy], hr⟩
  · cases h

theorem ixA_spec {e : SE} {id off n es : Nat} {r : AV} (hp : pc.holds ρ) {p : Loc} (hi : μ id = some p) (h : ixA pc e id off n es = .ok r) : ∃ j : Nat, e.den ρ = j ∧ j < n ∧ VR ρ μ r (.pointer (some ⟨p.1, p.2.1 + off + j * es, none⟩)) := by
  have told : ∀ {r : AV}, ((below pc e n).bind fun j => .ok (.ptr id (off + j * es))) = Res.ok r → ∃ j : Nat, e.den ρ = j ∧ j < n ∧ VR ρ μ r (.pointer (some ⟨p.1, p.2.1 + off + j * es, none⟩)) := by
    intro r h
    obtain ⟨j, h3, h⟩ := Res.bind_eq_ok h
    cases h
    obtain ⟨hj, hjn⟩ := below_spec hp h3
    exact ⟨j, hj, hjn, by rw [VR]; exact ⟨p, hi, by rw [Nat.add_assoc]⟩⟩
  have open_ : ∀ {r : AV}, ((decR pc (.le (.lit 0) e)).bind fun a => (decR pc (.lt e (.lit (.ofNat n)))).bind fun b => bif a && b then .ok (.ptrv id off es n e) else .fail "indexAddr: out of range") = Res.ok r →
      ∃ j : Nat, e.den ρ = j ∧ j < n ∧ VR ρ μ r (.pointer (some ⟨p.1, p.2.1 + off + j * es, none⟩)) := by
    intro r h
    obtain ⟨a, h1, h⟩ := Res.bind_eq_ok h
    obtain ⟨b, h2, h⟩ := Res.bind_eq_ok h
    rcases cond_eq h with ⟨h3, h4⟩ | ⟨_, h4⟩
    · cases h4
      simp only [Bool.and_eq_true] at h3
      have h1 := decR_spec hp h1
      have h2 := decR_spec hp h2
      rw [h3.1] at h1
      rw [h3.2] at h2
      simp only [SB.den, SE.den] at h1 h2
      have h1 : (0 : Int) ≤ e.den ρ := of_decide_eq_true h1
      have h2 : e.den ρ < (n : Int) := of_decide_eq_true h2
      refine ⟨(e.den ρ).toNat, by omega, by omega, ?_⟩
      rw [VR]
      exact ⟨p, (e.den ρ).toNat, hi, by omega, by omega, by rw [Nat.add_assoc]⟩
    · cases h4
  unfold ixA at h
  rcases cond_eq h with ⟨_, h1⟩ | ⟨_, h1⟩
  · exact told h1
  · split at h1
    · exact told h1
    · exact open_ h1

theorem aIndexAddr_spec {t : Nat} {e : SE} {k : IntKind} {a r : AV} {v : Value} (hp : pc.holds ρ) (hv : VR ρ μ a v) (h : aIndexAddr P pc t e a = .ok r) :
    ∃ y, (Instr.indexAt t v (.int k (e.den ρ))).run P w = .ok y w ∧ VR ρ μ r y := by
  unfold aIndexAddr at h
  obtain ⟨ti, h1, h0⟩ := Res.bind_eq_ok h
  clear h
  split at h0
  · rename_i n el id off hd
    obtain ⟨te, h2, h⟩ := Res.bind_eq_ok h0
    obtain ⟨j, h3, h⟩ := Res.bind_eq_ok h
    cases h
    rw [VR] at hv
    obtain ⟨p, hp', rfl⟩ := hv
    obtain ⟨hj, hjn⟩ := below_spec hp h3
    refine ⟨.pointer (some ⟨p.1, p.2.1 + off + j * te.size, none⟩), ?_, by rw [VR]; exact ⟨p, hp', by rw [Nat.add_assoc]⟩⟩
    rw [hj]
    simp [Instr.indexAt, asIntOf, run_und (td_arr (tdR_spec h1) hd), Instr.sureAddr, hjn, run_size (tdR_spec h2), addr_add]
  · rename_i el id off len ex cap es hd
    obtain ⟨te, h2, h⟩ := Res.bind_eq_ok h0
    rcases cond_eq h with ⟨h6, h7⟩ | ⟨_, h7⟩
    · clear h
      have hes := beq_eq h6
      rw [VR] at hv
      obtain ⟨p, c, hp', rfl, _⟩ := hv
      obtain ⟨j, hj, hjn, hr⟩ := ixA_spec hp hp' h7
      refine ⟨.pointer (some ⟨p.1, p.2.1 + off + j * te.size, none⟩), ?_, by rw [hes]; exact hr⟩
      rw [hj]
      simp [Instr.indexAt, asIntOf, run_und (td_slc (tdR_spec h1) hd), hjn, run_size (tdR_spec h2), addr_add]
    · cases h7
  · rename_i el id off n l es hd
    obtain ⟨te, h2, h⟩ := Res.bind_eq_ok h0
    rcases cond_eq h with ⟨h6, h7⟩ | ⟨_, h7⟩
    · clear h
      have hes := beq_eq h6
      obtain ⟨j, h3, h⟩ := Res.bind_eq_ok h7
      cases h
      rw [VR] at hv
      obtain ⟨p, c, m, rfl, hp', _, hnm, _⟩ := hv
      obtain ⟨hj, hjn⟩ := below_spec hp h3
      have hjm : j < m := Nat.lt_of_lt_of_le hjn hnm
      refine ⟨.pointer (some ⟨p.1, p.2.1 + off + j * te.size, none⟩), ?_, by rw [VR]; exact ⟨p, hp', by rw [Nat.add_assoc, hes]⟩⟩
      rw [hj]
      simp [Instr.indexAt, asIntOf, run_und (td_slc (tdR_spec h1) hd), hjm, run_size (tdR_spec h2), addr_add]
    · cases h7
  · cases h0

theorem aIndex_spec {t : Nat} {e : SE} {k : IntKind} {a r : AV} {v : Value} (hp : pc.holds ρ) (hv : VR ρ μ a v) (h : aIndex P pc t e a = .ok r) :
    ∃ y, (Instr.index t v (.int k (e.den ρ))).run P w = .ok y w ∧ VR ρ μ r y := by
  unfold aIndex at h
  obtain ⟨ti, h1, h0⟩ := Res.bind_eq_ok h
  clear h
  split at h0
  · rename_i n el cs hd
    obtain ⟨te, h2, h⟩ := Res.bind_eq_ok h0
    obtain ⟨j, h3, h⟩ := Res.bind_eq_ok h
    rw [VR] at hv
    obtain ⟨ys, rfl, hv⟩ := hv
    obtain ⟨hj, hjn⟩ := below_spec hp h3
    obtain ⟨y, hy, hr⟩ := partA_spec (w := w) (tdR_spec h2) hv (Res.ofO_eq_ok h)
    rw [hj]
    exact ⟨y, by simp [Instr.index, asIntOf, run_und (td_arr (tdR_spec h1) hd), hjn, run_size (tdR_spec h2), hy], hr⟩
  · rename_i n bs hd
    obtain ⟨j, h3, h⟩ := Res.bind_eq_ok h0
    obtain ⟨hj, hjn⟩ := below_spec hp h3
    split at h
    · rename_i b hb
      rcases cond_eq h with ⟨h6, h7⟩ | ⟨_, h7⟩
      · cases h7
        rw [VR] at hv
        obtain ⟨s, rfl, hs⟩ := hv
        rw [hj]
        have hbd := inByte_spec hp h6
        rw [nth_eq] at hb
        have h5 : s.data.toList[j]? = some (byteOf ρ b) := by rw [hs.2, List.getElem?_map, hb]; rfl
        have h6 : s[j]? = some (byteOf ρ b) := by
          have hlt : j < s.size := by rw [SR_size hs]; exact hjn
          have e1 : s[j]? = some s[j] := getElem?_pos s j hlt
          rw [e1]
          have : s[j] = s.data[j]'hlt := rfl
          rw [this]
          have e2 : s.data.toList[j]? = some (s.data[j]'hlt) := by
            rw [Array.getElem?_toList]; exact Array.getElem?_eq_getElem hlt
          rw [← e2, h5]
        refine ⟨.int .u8 (b.den ρ), ?_, by rw [VR]⟩
        have e3 : ((byteOf ρ b).toNat : Int) = b.den ρ := by
          simp only [byteOf, UInt8.toNat_ofNat']; omega
        simp [Instr.index, asIntOf, run_und (td_str (tdR_spec h1) hd), h6, e3]
      · cases h7
    · cases h
  · cases h0

end
end Go.Ev
