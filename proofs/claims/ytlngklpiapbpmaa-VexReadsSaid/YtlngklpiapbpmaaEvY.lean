/- A summary of a function without input holds of the model; no theorem of the program yet; no conditions. -/
import Derived.Test.YtlngklpiapbpmaaEvX
set_option linter.unusedSimpArgs false
set_option linter.unusedVariables false
namespace Go.Ev
section
variable {ρ : Env} {P : Program} {pc : PC}

/-- Numbers of the one run beside those of a heap. -/
def muS (μ μ1 : Mu) (nx : Nat) : Mu := fun id => if id < nx then μ id else μ1 (id - (nx - 64))

theorem muS_sh {μ μ1 : Mu} {nx : Nat} (h64 : 64 ≤ nx) (hle : (muG μ).le μ1) (hg : ∀ k, k < 64 → ∃ z, μ k = some (k, 0, z)) : ∀ id p, μ1 id = some p → muS μ μ1 nx (shI (nx - 64) id) = some p := by
  intro id p h
  unfold muS shI
  cases hb : Nat.blt id 64 with
  | true =>
    have hid : id < 64 := by simpa using hb
    simp only [cond_true]
    rw [if_pos (by omega)]
    obtain ⟨z, hz⟩ := hg id hid
    have h2 : muG μ id = some (id, 0, z) := by unfold muG; rw [if_pos hid]; exact hz
    rw [hle _ _ h2] at h
    cases h
    exact hz
  | false =>
    have hid : ¬ id < 64 := by
      have : ¬ (Nat.blt id 64 = true) := by simp [hb]
      simpa using this
    simp only [cond_false]
    rw [if_neg (by omega)]
    rw [← h]; congr 1; omega

theorem puts_get {cs : List AV} {j : Nat} {v : AV} (h : (T.puts .nil 0 cs).get j = some v) : cs[j]? = some v := by
  rw [T.get_puts] at h
  split at h
  · simpa using h
  · rw [T.get_nil] at h; cases h

theorem avsSh_get {d : Nat} : ∀ {cs : List AV} {j : Nat} {v : AV}, (avsSh d cs)[j]? = some v → ∃ u, cs[j]? = some u ∧ v = u.sh d := by
  intro cs
  induction cs with
  | nil => intro j v h; simp [avsSh] at h
  | cons c cs ih =>
    intro j v h
    cases j with
    | zero => simp [avsSh] at h; exact ⟨c, rfl, h.symm⟩
    | succ j => simp [avsSh] at h; obtain ⟨u, h1, h2⟩ := ih h; exact ⟨u, by simpa using h1, h2⟩

/-- A block of a summary stands for what the run's block stands for. -/
theorem chkBlk_BR {μ1 μ' : Mu} {d : Nat} {h1 : H} {g : G} {nx : Nat} {w : World} (R : Rel ρ μ1 g nx w) (hg : ∀ id b, h1.get id = some b → g id = some b) (hsh : ∀ id p, μ1 id = some p → μ' (shI d id) = some p) {id : Nat} {opn : Bool} {e : Nat} {cs : List AV}
    (h : chkBlk h1 (id, opn, e, cs) = true) : 64 ≤ id ∧ ∃ b p o, g id = some b ∧ μ1 id = some p ∧ w.heap[p.1]? = some o ∧ BR ρ μ' p (.cells true opn e cs.length (T.puts .nil 0 (avsSh d cs))) o := by
  unfold chkBlk at h
  simp only [Bool.and_eq_true] at h
  obtain ⟨h64, h⟩ := h
  refine ⟨by simpa using h64, ?_⟩
  split at h
  · rename_i opn' e' m vals hb
    simp only [Bool.and_eq_true, Bool.or_eq_true] at h
    obtain ⟨⟨k1, k2⟩, k3, k4, k5⟩ := h
    have k1 := eq_of_beq k1
    have k2 := beq_eq k2
    subst k1; subst k2
    have k4 : cs.length ≤ m := by simpa using k4
    split at k5
    · rename_i vs hvs
      have := avsBeq_eq k5
      subst this
      obtain ⟨g1, g2⟩ := T.gets_spec _ _ _ _ hvs
      obtain ⟨p, o, hp, ho, c, e2, fr, rfl, f1, f2, f3, f4⟩ := R.blk _ _ (hg _ _ hb)
      obtain ⟨f5, rfl, rfl, f6⟩ := f3 rfl
      refine ⟨_, p, _, hg _ _ hb, hp, ho, c, _, (0, 0), rfl, f1, by omega, fun _ => ⟨f5, rfl, rfl, fun ho' => ?_⟩, ?_⟩
      · rcases k3 with k3 | k3
        · rw [ho'] at k3; cases k3
        · rw [beq_eq k3]; exact f6 ho'
      · intro j v hj hv
        obtain ⟨u, h2, rfl⟩ := avsSh_get (puts_get hv)
        have h3 := g2 j u h2
        rw [Nat.zero_add] at h3
        obtain ⟨x, h4, h5⟩ := f4 j u (by omega) h3
        exact ⟨x, h4, VR_sh hsh h5⟩
    · cases k5
  · cases h

end
end Go.Ev
