/- A number that any number says: the summary of linotypekit.Pick; no theorem of the program yet; no conditions. -/
import Derived.Test.YtlngklpiapbpmaaEvZc
import Derived.Laws.BitsLemmas
set_option linter.unusedSimpArgs false
set_option linter.unusedVariables false
namespace Go.Ev

def pickI (x n : Int) : Int := if x.tmod n < 0 then x.tmod n + n else x.tmod n

theorem pickI_range {x n : Int} (hn : 0 < n) : 0 ≤ pickI x n ∧ pickI x n < n := by
  unfold pickI
  have h1 := Int.tmod_lt_of_pos x hn
  have h2 : -n < x.tmod n := by
    have := Int.lt_tmod_of_pos x hn
    omega
  split <;> omega

/-- Told as 'function 0 of x and n'. -/
noncomputable def pickS : PC → List AV → H → Res (AV × H) := fun _ args h =>
  match args with
  | [.int .i64 e, .int .i64 (.lit (.ofNat n))] => bif Nat.ble 1 n && Nat.ble n 4611686018427387904 then .ok (.int .i64 (.app 0 (.cons e (.cons (.lit (.ofNat n)) .nil))), h) else .fail "Pick: n"
  | _ => .fail "Pick"

noncomputable def isV (v : AV) (r : Res (AV × H)) : Bool :=
  match r with
  | .ok (v', _) => v'.beq v
  | _ => false

theorem isV_spec {v : AV} {r : Res (AV × H)} (h : isV v r = true) : ∃ h', r = .ok (v, h') := by
  unfold isV at h
  split at h
  · rename_i v' h'
    exact ⟨h', by rw [AV.beq_eq h]⟩
  · cases h

section
variable {ρ ρ' : Env} {P : Program} {pc : PC} {X : Hooks}

theorem RelN {μ : Mu} {w : World} (hg : ∀ k, k < 64 → ∃ z, μ k = some (k, 0, z)) : Rel ρ (muG μ) H0.get H0.next w where
  blk := fun id b h => by cases (show (none : Option Blk) = some b from h)
  inj := fun i j b b' p q h => by cases (show (none : Option Blk) = some b from h)
  fresh := fun id p h => by
    unfold muG at h
    split at h
    · rename_i hk; exact hk
    · cases h
  glob := fun k hk => by
    obtain ⟨z, hz⟩ := hg k hk
    exact ⟨z, by unfold muG; rw [if_pos hk]; exact hz⟩

/-- What owned nothing and told nothing of new memory leaves all that was related. -/
theorem lift0 {μ μ1 : Mu} {g g1 : G} {nx : Nat} {w w' : World} (R : Rel ρ μ g nx w) (S : Stp (muG μ) H0.get H0.next w μ1 g1 w') : Rel ρ μ g nx w' ∧ Stp μ g nx w μ g w' := by
  have hk : ∀ b, b < w.heap.size → w'.heap[b]? = w.heap[b]? := fun b hb => S.frame b hb fun id bk p h _ => by cases (show (none : Option Blk) = some bk from h)
  refine ⟨⟨?_, R.inj, R.fresh, R.glob⟩, Mu.le_refl _, fun _ _ h => .inl h, fun id b h => .inl ⟨b, h⟩, S.size, S.tape, S.os, S.output, fun b hb _ => hk b hb, fun id bk p h h' => .inr ⟨id, bk, p, h, h', rfl, fun h => h⟩, S.fz⟩
  intro id b hb
  obtain ⟨p, o, h1, h2, h3⟩ := R.blk id b hb
  exact ⟨p, o, h1, by rw [hk _ (Array.getElem?_eq_some_iff.1 h2).1]; exact h2, h3⟩

theorem wrap_small {y : Int} (h1 : 0 ≤ y) (h2 : y < 4611686018427387904) : IntKind.i64.wrap y = y := by
  rw [IntKind.wrap_i64]
  omega

abbrev pickArgs : List AV := [.int .i64 (.var 0), .int .i64 (.var 1)]
abbrev pickLo : PC := [(.lt (.rem (.var 0) (.var 1)) (.lit 0), true), (.lt (.var 1) (.lit 1), false)]
abbrev pickHi : PC := [(.lt (.rem (.var 0) (.var 1)) (.lit 0), false), (.lt (.var 1) (.lit 1), false)]

theorem pick_ok {k f : Nat} (hm : P.follows .mixedOrders = true) (hX : ∀ ρ pc, HooksOK P ρ X pc) (hx : X.ext f = none) (hρ : ∀ x n, ρ.fn 0 [x, n] = pickI x n)
    (hfn : ∃ fn, P.funcs[f]? = some fn ∧ fn.body.isNone = false ∧ (fn.name == "runtime.NumGoroutine") = false)
    (h1 : isV (.int .i64 (.wrap .i64 (.add (.rem (.var 0) (.var 1)) (.var 1)))) (run P X pickLo k f pickArgs H0) = true)
    (h2 : isV (.int .i64 (.rem (.var 0) (.var 1))) (run P X pickHi k f pickArgs H0) = true) : FnOK P ρ (pickS pc) f := by
  intro args h v h' hr
  refine ⟨hfn, ?_⟩
  intro μ w us R hv
  unfold pickS at hr
  split at hr
  · rename_i e n
    rcases cond_eq hr with ⟨h3, h4⟩ | ⟨_, h4⟩
    · simp only [Bool.and_eq_true] at h3
      have hn1 : 1 ≤ n := by simpa using h3.1
      have hn2 : n ≤ 4611686018427387904 := by simpa using h3.2
      cases h4
      obtain ⟨h1', e1⟩ := isV_spec h1
      obtain ⟨h2', e2⟩ := isV_spec h2
      let ρ' : Env := ⟨fun i => if i = 0 then e.den ρ else n, fun _ _ => 0, fun _ _ => false⟩
      have hv' : VRs ρ' (muG μ) pickArgs us.toList := by
        simp only [VRs, VR] at hv ⊢
        exact hv
      have post : ∀ {v1 : AV} {hh : H}, (∀ μ' x, VR ρ' μ' v1 x → x = .int .i64 (pickI (e.den ρ) n)) → ∀ {pc'}, PC.holds ρ' pc' → run P X pc' k f pickArgs H0 = .ok (v1, hh) →
          CallsIn Fence.wide 0 P f us w (FnPost ρ μ h w (.int .i64 (.app 0 (.cons e (.cons (.lit (.ofNat n)) .nil)))) h) := by
        intro v1 hh hval pc' hp hrun
        refine callsIn_wide.2 ((run_sound (hX ρ' pc') hp hm (RelN R.glob) hv' hx hrun).mono ?_)
        rintro e' w' ⟨x, μ1, rfl, hx', _, S1, _⟩
        obtain ⟨R', S'⟩ := lift0 R S1
        refine ⟨x, μ, rfl, ?_, R', S', Nat.le_refl _⟩
        rw [hval μ1 x hx', VR]
        simp only [SE.den, SE.dens, hρ]
        rfl
      by_cases hneg : (e.den ρ).tmod n < 0
      · refine post ?_ (pc' := pickLo) ?_ e1
        · intro μ' x hx'
          rw [VR] at hx'
          rw [hx']
          have hr := pickI_range (x := e.den ρ) (n := n) (by omega)
          have : (SE.den ρ' (.wrap .i64 (.add (.rem (.var 0) (.var 1)) (.var 1)))) = IntKind.i64.wrap ((e.den ρ).tmod n + n) := by simp [SE.den, ρ']
          rw [this]
          unfold pickI at hr ⊢
          rw [if_pos hneg] at hr ⊢
          rw [wrap_small (by omega) (by omega)]
        · intro y hy
          simp only [List.mem_cons, List.mem_nil_iff, or_false] at hy
          rcases hy with rfl | rfl
          · simp [SB.den, SE.den, ρ', hneg]
          · simp [SB.den, SE.den, ρ']; omega
      · refine post ?_ (pc' := pickHi) ?_ e2
        · intro μ' x hx'
          rw [VR] at hx'
          rw [hx']
          unfold pickI
          rw [if_neg hneg]
          simp [SE.den, ρ']
        · intro y hy
          simp only [List.mem_cons, List.mem_nil_iff, or_false] at hy
          rcases hy with rfl | rfl
          · simp [SB.den, SE.den, ρ']; omega
          · simp [SB.den, SE.den, ρ']; omega
    · cases h4
  · cases hr

end
end Go.Ev
