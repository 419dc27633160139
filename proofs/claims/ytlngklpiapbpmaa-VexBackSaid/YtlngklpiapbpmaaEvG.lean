/- The evaluator's texts, comparisons, parts, places and bounds are the model's; no theorem of the program yet; no conditions. -/
import Derived.Test.YtlngklpiapbpmaaEvF
set_option linter.unusedSimpArgs false
set_option linter.unusedVariables false
namespace Go.Ev
section
variable {ρ : Env} {μ : Mu} {P : Program} {pc : PC} {w : World}

def byteOf (ρ : Env) (e : SE) : UInt8 := UInt8.ofNat (e.den ρ).toNat

theorem byteOf_inj {a b : SE} (ha : 0 ≤ a.den ρ ∧ a.den ρ ≤ 255) (hb : 0 ≤ b.den ρ ∧ b.den ρ ≤ 255) : byteOf ρ a = byteOf ρ b ↔ a.den ρ = b.den ρ := by
  constructor
  · intro h
    have := congrArg UInt8.toNat h
    simp only [byteOf, UInt8.toNat_ofNat'] at this
    omega
  · intro h; simp [byteOf, h]

theorem strEq_spec (hp : pc.holds ρ) : ∀ {as bs : List SE} {r : SB}, strEq pc as bs = .ok r → r.den ρ = (as.map (byteOf ρ) == bs.map (byteOf ρ)) := by
  intro as
  induction as with
  | nil => intro bs r h; cases bs <;> (simp only [strEq] at h; cases h; simp [SB.den])
  | cons a as ih =>
    intro bs r h
    cases bs with
    | nil => simp only [strEq] at h; cases h; simp [SB.den]
    | cons b bs =>
      simp only [strEq] at h
      rcases cond_eq h with ⟨h0, h⟩ | ⟨_, h⟩
      · rw [SE.beq_eq h0, ih h]
        simp
      rcases cond_eq h with ⟨h1, h⟩ | ⟨_, h⟩
      · simp only [Bool.and_eq_true] at h1
        have ha := inByte_spec hp h1.1
        have hb := inByte_spec hp h1.2
        have he : (eqE (nrm pc a) (nrm pc b)).den ρ = (byteOf ρ a == byteOf ρ b) := by
          rw [eqE_den, nrm_spec hp, nrm_spec hp, Bool.eq_iff_iff, beq_iff_eq, beq_iff_eq]
          exact (byteOf_inj ha hb).symm
        have key : ((a :: as).map (byteOf ρ) == (b :: bs).map (byteOf ρ)) = ((byteOf ρ a == byteOf ρ b) && (as.map (byteOf ρ) == bs.map (byteOf ρ))) := rfl
        rw [key, ← he]
        split at h
        · rename_i hf
          cases h
          rw [hf]; simp [SB.den]
        · split at h
          · rename_i r' hr; cases h; rw [andB_den, ih hr]
          · rename_i h2; exact absurd h (fun e => h2 _ e)
      · cases h

theorem SR_toList {n : Nat} {bs : List SE} {s : ByteArray} (h : SR ρ n bs s) : s.toList = bs.map (byteOf ρ) := by
  rw [ByteArray.toList_eq]; exact h.2

theorem SR_size {n : Nat} {bs : List SE} {s : ByteArray} (h : SR ρ n bs s) : s.size = n := by
  have h1 := congrArg List.length h.2
  simp only [List.length_map, h.1, Array.length_toList] at h1
  exact h1

theorem SR_ne {n m : Nat} {a b : List SE} {s u : ByteArray} (h : SR ρ n a s) (h' : SR ρ m b u) (hne : n ≠ m) : (s.toList == u.toList) = false := by
  rw [beq_eq_false_iff_ne]
  intro e
  have h1 := congrArg List.length e
  rw [SR_toList h, SR_toList h', List.length_map, List.length_map, h.1, h'.1] at h1
  exact hne h1

/-! ### Parts -/
theorem partA_spec {t : Nat} {ti : TI} {off : Nat} {cs : List AV} {xs : Array Value} {r : AV} (ht : tinfo P t = some ti) (hv : VRs ρ μ cs xs.toList) (h : partA ti off cs = some r) :
    ∃ y, (part t xs off).run P w = .ok y w ∧ VR ρ μ r y := by
  unfold partA at h
  rcases cond_eq h with ⟨h1, h⟩ | ⟨h1, h⟩
  · rcases cond_eq h with ⟨h2, h⟩ | ⟨_, h⟩
    · cases h
      refine ⟨.agg (xs.extract off (off + ti.size)), by simp [part, run_isAgg ht, h1, run_size ht], ?_⟩
      rw [VR]
      refine ⟨_, rfl, ?_⟩
      have := VRs_take (VRs_drop hv off) ti.size
      simpa [Array.toList_extract, List.extract_eq_take_drop] using this
    · cases h
  · have h3 : cs[off]? = some r := by rw [← List.head?_drop]; exact h
    obtain ⟨v, hv1, hv2⟩ := VRs_get hv off r h3
    refine ⟨v, ?_, hv2⟩
    have h4 : xs[off]? = some v := by simpa using hv1
    simp [part, run_isAgg ht, h1, h4]

/-! ### Equality -/
def EqvOK (ρ : Env) (μ : Mu) (P : Program) (d : Nat) (ev : Nat → AV → AV → Res SB) : Prop :=
  ∀ t x y r, ev t x y = .ok r → ∀ u v, VR ρ μ x u → VR ρ μ y v → ∀ w, (Op.equalIn d t u v).run P w = .ok (r.den ρ) w

theorem eqfs_spec {d : Nat} {ev : Nat → AV → AV → Res SB} (hev : EqvOK ρ μ P d ev) (w : World) : ∀ {fs : List Field} {as bs : List AV} {r : SB} {xs ys : Array Value},
    eqfs P ev (fs.map fun f => (f.type, f.offset, decide (f.name ≠ "_"))) as bs = .ok r → VRs ρ μ as xs.toList → VRs ρ μ bs ys.toList → (Op.eqFields d xs ys fs).run P w = .ok (r.den ρ) w := by
  intro fs
  induction fs with
  | nil => intro as bs r xs ys h _ _; simp only [List.map_nil, eqfs] at h; cases h; simp [Op.eqFields, SB.den]
  | cons f fs ih =>
    intro as bs r xs ys h hx hy
    simp only [List.map_cons, eqfs] at h
    rcases cond_eq h with ⟨h1, h⟩ | ⟨h1, h⟩
    · have hn : f.name ≠ "_" := by simpa using h1
      split at h
      · cases h
      · rename_i ti hti
        split at h
        · rename_i x y hpx hpy
          obtain ⟨u, hu1, hu2⟩ := partA_spec (w := w) hti hx hpx
          obtain ⟨v, hv1, hv2⟩ := partA_spec (w := w) hti hy hpy
          split at h
          · rename_i a ha
            have e1 := hev _ _ _ _ ha u v hu2 hv2 w
            split at h
            · rename_i b hb
              cases h
              have e2 := ih hb hx hy
              simp only [Op.eqFields, hn, ne_eq, not_false_eq_true, if_true, Sem.run_bind, hu1, hv1, e1, Result.andThen_ok, Sem.run_ite, andB_den]
              cases a.den ρ <;> simp [e2]
            · rename_i h2; exact absurd h (fun e => h2 _ e)
          · rename_i h2; exact absurd h (fun e => h2 _ e)
        · cases h
    · have hn : ¬ f.name ≠ "_" := by simpa using h1
      simp only [Op.eqFields, hn, if_false]
      exact ih h hx hy

theorem eqv_spec (hp : pc.holds ρ) : ∀ (f d : Nat), f ≤ d → EqvOK ρ μ P d (eqv P pc f) := by
  intro f
  induction f with
  | zero => intro d _ t x y r h; cases h
  | succ f ih =>
    intro d hd t x y r h u v hu hv w
    obtain ⟨d, rfl⟩ : ∃ e, d = e + 1 := ⟨d - 1, by omega⟩
    simp only [eqv] at h
    split at h
    · cases h
    · rename_i ti hti
      split at h
      · -- bool
        rename_i hd'
        have ht := td_bool hti hd'
        rw [VR] at hu hv
        subst hu; subst hv
        rename_i a b
        have goal : ∀ r : SB, r.den ρ = (a.den ρ == b.den ρ) → (Op.equalIn (d + 1) t (.bool (a.den ρ)) (.bool (b.den ρ))).run P w = .ok (r.den ρ) w := fun r e => by
          rw [e]; simp [Op.equalIn, run_und ht]
        apply goal
        split at h
        · cases h; simp [SB.den]
        · cases h; rw [notB_den]; simp [SB.den]
        · cases h; simp [SB.den]
        · cases h; rw [notB_den]; simp [SB.den]
        · split at h
          · rename_i h1; cases h; rw [dec_spec hp h1]; simp
          · rename_i h1; cases h; rw [dec_spec hp h1, notB_den]; simp
          · cases h
      · -- int
        rename_i k' k a l b hd'
        rcases cond_eq h with ⟨h1, h2⟩ | ⟨_, h2⟩
        · clear h
          have := ikBeq_eq h1; subst this
          cases h2
          rw [VR] at hu hv
          subst hu; subst hv
          simp [Op.equalIn, run_und (td_int hti hd'), eqE_den, nrm_spec hp]
        · cases h2
      · -- text
        rename_i n a m b hd'
        rw [VR] at hu hv
        obtain ⟨s, rfl, hs⟩ := hu
        obtain ⟨u, rfl, hu⟩ := hv
        have e : (Op.equalIn (d + 1) t (.string s) (.string u)).run P w = .ok (s.toList == u.toList) w := by
          rw [← beq_toListBytes]; simp [Op.equalIn, run_und (td_str hti hd')]
        rw [e]
        rcases cond_eq h with ⟨h1, h⟩ | ⟨h1, h⟩
        · rw [strEq_spec hp h, SR_toList hs, SR_toList hu]
        · cases h
          rw [SR_ne hs hu (fun e => by rw [e] at h1; simp at h1)]; rfl
      case h_18 =>
        rename_i fs xs ys hd'
        rcases cond_eq h with ⟨_, h⟩ | ⟨h1, h⟩
        · cases h
        · obtain ⟨fields, hf, rfl⟩ := td_struct hti hd'
          rw [VR] at hu hv
          obtain ⟨us, rfl, hu⟩ := hu
          obtain ⟨vs, rfl, hv⟩ := hv
          have hfo : P.fieldsOf t = fields := by simp [Program.fieldsOf, hf]
          rw [run_equalIn_struct w d t us vs (by rw [hfo]; exact hf) h1, hfo]
          exact eqfs_spec (ih d (by omega)) w h hu hv
      case h_19 => cases h
      all_goals
        rename_i hd'
        cases h
        rw [VR] at hu; rw [VR] at hv
        first
          | (subst hu; subst hv; first
              | simp [Op.equalIn, run_und (td_ptr hti hd'), SB.den]
              | simp [Op.equalIn, run_und (td_slc hti hd'), SB.den]
              | simp [Op.equalIn, run_und (td_map hti hd'), SB.den]
              | (obtain ⟨ms, hm⟩ := td_iface hti hd'; simp [Op.equalIn, run_und hm, SB.den]))
          | (subst hu; first
              | (obtain ⟨p, _, rfl⟩ := hv; first
                  | simp [Op.equalIn, run_und (td_ptr hti hd'), SB.den]
                  | simp [Op.equalIn, run_und (td_map hti hd'), SB.den]
                  | simp [Op.equalIn, run_und (td_slc hti hd'), SB.den])
              | (obtain ⟨p, c, _, rfl, _⟩ := hv; simp [Op.equalIn, run_und (td_slc hti hd'), SB.den])
              | (obtain ⟨p, c, rfl⟩ := hv; simp [Op.equalIn, run_und (td_slc hti hd'), SB.den])
              | (obtain ⟨p, rfl, _⟩ := hv; obtain ⟨ms, hm⟩ := td_iface hti hd'; simp [Op.equalIn, run_und hm, SB.den]))
          | (subst hv; first
              | (obtain ⟨p, _, rfl⟩ := hu; first
                  | simp [Op.equalIn, run_und (td_ptr hti hd'), SB.den]
                  | simp [Op.equalIn, run_und (td_map hti hd'), SB.den]
                  | simp [Op.equalIn, run_und (td_slc hti hd'), SB.den])
              | (obtain ⟨p, c, _, rfl, _⟩ := hu; simp [Op.equalIn, run_und (td_slc hti hd'), SB.den])
              | (obtain ⟨p, c, rfl⟩ := hu; simp [Op.equalIn, run_und (td_slc hti hd'), SB.den])
              | (obtain ⟨p, rfl, _⟩ := hu; obtain ⟨ms, hm⟩ := td_iface hti hd'; simp [Op.equalIn, run_und hm, SB.den]))
end
end Go.Ev
