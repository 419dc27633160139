/- How the evaluator's values and heap stand for the model's; no theorem of the program yet; no conditions. -/
import Derived.Test.YtlngklpiapbpmaaEvD
import Derived.Laws.World
import Derived.Laws.Sem
import Derived.Laws.AppendOwn
import Derived.Laws.CopyRow
import Derived.Laws.BytesString
import Derived.Laws.StructEq
import Derived.Laws.Slices
set_option linter.unusedSimpArgs false
set_option linter.unusedVariables false
namespace Go.Ev

/-- Where a block lies: its number, the place of its first cell, how many cells there are in all. -/
abbrev Loc := Nat × Nat × Nat
abbrev Mu := Nat → Option Loc

def Mu.le (μ μ' : Mu) : Prop := ∀ id p, μ id = some p → μ' id = some p
theorem Mu.le_refl (μ : Mu) : μ.le μ := fun _ _ h => h
theorem Mu.le_trans {a b c : Mu} (h : a.le b) (h' : b.le c) : a.le c := fun id p e => h' id p (h id p e)

def fnR (μ : Mu) (f g : Fn) : Prop :=
  match f with
  | .yield l => ∃ p, μ l = some p ∧ g = .yield p.1
  | f => g = f

def SR (ρ : Env) (n : Nat) (bs : List SE) (s : ByteArray) : Prop :=
  bs.length = n ∧ s.data.toList = bs.map fun e => UInt8.ofNat (e.den ρ).toNat

mutual
def VR (ρ : Env) (μ : Mu) : AV → Value → Prop
  | .int k e, v => v = .int k (e.den ρ)
  | .bool b, v => v = .bool (b.den ρ)
  | .str n bs, v => ∃ s, v = .string s ∧ SR ρ n bs s
  | .nilp, v => v = .pointer none
  | .ptr id off, v => ∃ p, μ id = some p ∧ v = .pointer (some ⟨p.1, p.2.1 + off, none⟩)
  | .nils, v => v = .slice none 0 0
  | .slc id off len ex cap es, v => ∃ p c, μ id = some p ∧ v = .slice (some ⟨p.1, p.2.1 + off, none⟩) len c ∧ (ex = true → c = cap) ∧ cap ≤ c ∧ len ≤ cap ∧ p.2.1 + off + c * es ≤ p.2.2
  | .emp, v => ∃ a c, v = .slice (some a) 0 c
  | .slv id off n l es, v => ∃ (p : Loc) (c m : Nat), v = .slice (some ⟨p.1, p.2.1 + off, none⟩) m c ∧ μ id = some p ∧ (m : Int) = l.den ρ ∧ n ≤ m ∧ m ≤ c ∧ p.2.1 + off + c * es ≤ p.2.2
  | .nilm, v => v = .map none
  | .map id, v => ∃ p, μ id = some p ∧ v = .map (some p.1)
  | .nilf, v => v = .nilFunc
  | .func fn a b, v => ∃ fn' a' b', v = .func fn' a' b' ∧ fnR μ fn fn' ∧ VRs ρ μ a a'.toList ∧ VRs ρ μ b b'.toList
  | .nili, v => v = .nilIface
  | .iface t x, v => ∃ y, v = .iface t y ∧ VR ρ μ x y
  | .agg cs, v => ∃ ys, v = .agg ys ∧ VRs ρ μ cs ys.toList
  | .tup vs, v => ∃ ys, v = .tuple ys ∧ VRs ρ μ vs ys.toList
def VRs (ρ : Env) (μ : Mu) : List AV → List Value → Prop
  | [], ys => ys = []
  | a :: as, ys => ∃ y r, ys = y :: r ∧ VR ρ μ a y ∧ VRs ρ μ as r
end

theorem fnR_mono {μ μ' : Mu} (h : μ.le μ') {f g : Fn} (hf : fnR μ f g) : fnR μ' f g := by
  cases f <;> simp only [fnR] at hf ⊢ <;> first
    | exact hf
    | (obtain ⟨p, h1, h2⟩ := hf; exact ⟨p, h _ _ h1, h2⟩)

mutual
theorem VR_mono {ρ : Env} {μ μ' : Mu} (h : μ.le μ') : ∀ {a : AV} {v : Value}, VR ρ μ a v → VR ρ μ' a v
  | .int _ _, _, hv => hv
  | .bool _, _, hv => hv
  | .str _ _, _, hv => hv
  | .nilp, _, hv => hv
  | .ptr _ _, _, ⟨p, h1, h2⟩ => ⟨p, h _ _ h1, h2⟩
  | .nils, _, hv => hv
  | .slc .., _, ⟨p, c, h1, h2⟩ => ⟨p, c, h _ _ h1, h2⟩
  | .emp, _, hv => hv
  | .slv .., _, ⟨p, c, m, h0, h1, h2⟩ => ⟨p, c, m, h0, h _ _ h1, h2⟩
  | .nilm, _, hv => hv
  | .map _, _, ⟨p, h1, h2⟩ => ⟨p, h _ _ h1, h2⟩
  | .nilf, _, hv => hv
  | .func _ _ _, _, ⟨f, a, b, h1, h2, h3, h4⟩ => ⟨f, a, b, h1, fnR_mono h h2, VRs_mono h h3, VRs_mono h h4⟩
  | .nili, _, hv => hv
  | .iface _ _, _, ⟨y, h1, h2⟩ => ⟨y, h1, VR_mono h h2⟩
  | .agg _, _, ⟨ys, h1, h2⟩ => ⟨ys, h1, VRs_mono h h2⟩
  | .tup _, _, ⟨ys, h1, h2⟩ => ⟨ys, h1, VRs_mono h h2⟩
theorem VRs_mono {ρ : Env} {μ μ' : Mu} (h : μ.le μ') : ∀ {as : List AV} {vs : List Value}, VRs ρ μ as vs → VRs ρ μ' as vs
  | [], _, hv => hv
  | _ :: _, _, ⟨y, r, h1, h2, h3⟩ => ⟨y, r, h1, VR_mono h h2, VRs_mono h h3⟩
end

section
variable {ρ : Env} {μ : Mu}

theorem VRs_nil {vs : List Value} : VRs ρ μ [] vs ↔ vs = [] := by rw [VRs]
theorem VRs_cons {a : AV} {as : List AV} {vs : List Value} : VRs ρ μ (a :: as) vs ↔ ∃ y r, vs = y :: r ∧ VR ρ μ a y ∧ VRs ρ μ as r := by rw [VRs]

theorem VRs_length : ∀ {as : List AV} {vs : List Value}, VRs ρ μ as vs → as.length = vs.length := by
  intro as
  induction as with
  | nil => intro vs h; rw [VRs_nil] at h; subst h; rfl
  | cons a as ih => intro vs h; rw [VRs_cons] at h; obtain ⟨y, r, rfl, _, h3⟩ := h; simp [ih h3]

theorem VRs_get : ∀ {as : List AV} {vs : List Value}, VRs ρ μ as vs → ∀ (i : Nat) (a : AV), as[i]? = some a → ∃ v, vs[i]? = some v ∧ VR ρ μ a v := by
  intro as
  induction as with
  | nil => intro vs h i a e; simp at e
  | cons a as ih =>
    intro vs h i b e
    rw [VRs_cons] at h
    obtain ⟨y, r, rfl, h2, h3⟩ := h
    cases i with
    | zero => simp at e; subst e; exact ⟨y, rfl, h2⟩
    | succ i => simp at e; obtain ⟨v, hv, hr⟩ := ih h3 i b e; exact ⟨v, by simpa using hv, hr⟩

theorem VRs_of_get : ∀ {as : List AV} {vs : List Value}, as.length = vs.length → (∀ (i : Nat) (a : AV) (v : Value), as[i]? = some a → vs[i]? = some v → VR ρ μ a v) → VRs ρ μ as vs := by
  intro as
  induction as with
  | nil => intro vs h _; rw [VRs_nil]; exact List.eq_nil_of_length_eq_zero (by simpa using h.symm)
  | cons a as ih =>
    intro vs h hg
    cases vs with
    | nil => simp at h
    | cons v vs =>
      rw [VRs_cons]
      exact ⟨v, vs, rfl, hg 0 a v rfl rfl, ih (by simpa using h) fun i a' v' h1 h2 => hg (i + 1) a' v' (by simpa using h1) (by simpa using h2)⟩

theorem VRs_append {as bs : List AV} {vs us : List Value} (h : VRs ρ μ as vs) (h' : VRs ρ μ bs us) : VRs ρ μ (as ++ bs) (vs ++ us) := by
  induction as generalizing vs with
  | nil => rw [VRs_nil] at h; subst h; exact h'
  | cons a as ih => rw [VRs_cons] at h; obtain ⟨y, r, rfl, h2, h3⟩ := h; exact VRs_cons.2 ⟨y, r ++ us, rfl, h2, ih h3⟩

theorem VRs_take {as : List AV} {vs : List Value} (h : VRs ρ μ as vs) : ∀ n, VRs ρ μ (as.take n) (vs.take n) := by
  induction as generalizing vs with
  | nil => intro n; rw [VRs_nil] at h; subst h; simp [VRs_nil]
  | cons a as ih =>
    intro n
    rw [VRs_cons] at h
    obtain ⟨y, r, rfl, h2, h3⟩ := h
    cases n with
    | zero => simp [VRs_nil]
    | succ n => exact VRs_cons.2 ⟨y, r.take n, rfl, h2, ih h3 n⟩

theorem VRs_drop {as : List AV} {vs : List Value} (h : VRs ρ μ as vs) : ∀ n, VRs ρ μ (as.drop n) (vs.drop n) := by
  induction as generalizing vs with
  | nil => intro n; rw [VRs_nil] at h; subst h; simp [VRs_nil]
  | cons a as ih =>
    intro n
    cases n with
    | zero => exact h
    | succ n =>
      rw [VRs_cons] at h
      obtain ⟨y, r, rfl, _, h3⟩ := h
      exact ih h3 n

theorem VR_cells {a : AV} {v : Value} (h : VR ρ μ a v) : VRs ρ μ a.cells v.cells.toList := by
  have one : ∀ {a : AV} {v : Value}, VR ρ μ a v → VRs ρ μ [a] [v] := fun h => VRs_cons.2 ⟨_, _, rfl, h, VRs_nil.2 rfl⟩
  cases a
  case agg cs => rw [VR] at h; obtain ⟨ys, rfl, h⟩ := h; exact h
  all_goals
    have h0 := h
    rw [VR] at h
    first
      | (subst h; exact one h0)
      | (obtain ⟨_, rfl, _⟩ := h; exact one h0)
      | (obtain ⟨_, _, rfl⟩ := h; exact one h0)
      | (obtain ⟨_, _, _, rfl, _⟩ := h; exact one h0)
      | (obtain ⟨_, _, _, rfl, _, _⟩ := h; exact one h0)

theorem VR_one {a : AV} {v : Value} (h : VR ρ μ a v) (h1 : a.one = true) : v.oneCell' = true := by
  cases a <;> simp only [AV.one] at h1 <;> first | (cases h1; done) | skip
  all_goals
    rw [VR] at h
    first
      | (subst h; rfl)
      | (obtain ⟨_, rfl, _⟩ := h; rfl)
      | (obtain ⟨_, _, rfl⟩ := h; rfl)
      | (obtain ⟨_, _, _, rfl, _⟩ := h; rfl)
      | (obtain ⟨_, _, _, rfl, _, _⟩ := h; rfl)

end
end Go.Ev
