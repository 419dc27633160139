/- Summaries of functions without input hold of the model; no theorem of the program yet; no conditions. -/
import Derived.Test.YtlngklpiapbpmaaEvW
set_option linter.unusedSimpArgs false
set_option linter.unusedVariables false
namespace Go.Ev
section
variable {ρ : Env} {P : Program} {pc : PC}

theorem laySum_get {d : Nat} : ∀ {l : List SBlk} {t : T Blk} {j : Nat} {b : Blk}, (laySum d t l).get j = some b →
    t.get j = some b ∨ ∃ id opn e cs, (id, opn, e, cs) ∈ l ∧ j = id + d ∧ b = .cells true opn e cs.length (T.puts .nil 0 (avsSh d cs)) := by
  intro l
  induction l with
  | nil => intro t j b h; exact .inl h
  | cons x l ih =>
    obtain ⟨id, opn, e, cs⟩ := x
    intro t j b h
    rcases ih h with h | ⟨id', opn', e', cs', h1, h2, h3⟩
    · rw [T.get_put] at h
      split at h
      · rename_i ej; cases h; exact .inr ⟨id, opn, e, cs, List.mem_cons_self, ej, rfl⟩
      · exact .inl h
    · exact .inr ⟨id', opn', e', cs', List.mem_cons_of_mem _ h1, h2, h3⟩

theorem avsSh_length {d : Nat} : ∀ {cs : List AV}, (avsSh d cs).length = cs.length := by
  intro cs
  induction cs with
  | nil => rfl
  | cons c cs ih => simp [avsSh, ih]

/-- The globals alone. -/
def muG (μ : Mu) : Mu := fun k => if k < 64 then μ k else none

theorem RelG {μ : Mu} {g : G} {nx : Nat} {w : World} (R : Rel ρ μ g nx w) : Rel ρ (muG μ) H0.get H0.next w where
  blk := fun id b h => by cases (show (none : Option Blk) = some b from h)
  inj := fun i j b b' p q h => by cases (show (none : Option Blk) = some b from h)
  fresh := fun id p h => by
    unfold muG at h
    split at h
    · rename_i hk; exact hk
    · cases h
  glob := fun k hk => by
    obtain ⟨z, hz⟩ := R.glob k hk
    exact ⟨z, by unfold muG; rw [if_pos hk]; exact hz⟩

end
end Go.Ev
