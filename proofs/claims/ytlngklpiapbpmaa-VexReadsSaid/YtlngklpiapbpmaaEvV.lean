/- From the evaluator to a row of a law without input; no theorem of the program yet; no conditions. -/
import Derived.Test.YtlngklpiapbpmaaEvU
import Derived.KernelRfl
set_option linter.unusedSimpArgs false
set_option linter.unusedVariables false
namespace Go.Ev

/-- No summaries, no functions without a body, no methods. -/
def X0 : Hooks := ⟨fun _ => none, fun _ => none, fun _ _ => none⟩

theorem X0_ok {P : Program} {ρ : Env} {pc : PC} : HooksOK P ρ X0 pc := ⟨(fun _ _ h => by cases h), (fun _ _ h => by cases h), (fun _ _ _ h => by cases h)⟩

noncomputable def H0 : H := ⟨64, .nil⟩
def mu0 : Mu := fun k => if k < 64 then some (k, 0, 0) else none

theorem Rel0 {ρ : Env} {w : World} : Rel ρ mu0 H0.get H0.next w where
  blk := fun id b h => by cases (show (none : Option Blk) = some b from h)
  inj := fun i j b b' p q h => by cases (show (none : Option Blk) = some b from h)
  fresh := fun id p h => by
    unfold mu0 at h
    split at h
    · rename_i hk; exact hk
    · cases h
  glob := fun k hk => ⟨0, by unfold mu0; rw [if_pos hk]⟩

/-- Where the evaluator has owned nothing at the start, the world has only grown. -/
theorem Stp.kept {μ μ' : Mu} {g g' : G} {nx : Nat} {w w' : World} (S : Stp μ g nx w μ' g' w') (hg : ∀ id b, g id = some b → b.own = false) : w.keptBut w' (fun _ => False) := by
  refine ⟨S.os, S.output, fun i hi => ?_⟩
  have h := S.frame i hi fun id bk p h1 h2 _ => by rw [hg id bk h1] at h2; cases h2
  rw [h]
  have ho : w.heap[i]? = some w.heap[i] := Array.getElem?_eq_getElem hi
  rw [ho]
  cases w.heap[i] <;> simp

noncomputable def isTrue (r : Res (AV × H)) : Bool :=
  match r with
  | .ok (.bool (.lit true), _) => true
  | _ => false

/-- A function without arguments that tells 'true'. -/
theorem calls_true {P : Program} {k f : Nat} (hm : P.follows .mixedOrders = true) (h : isTrue (run P X0 [] k f [] H0) = true) (w : World) :
    Calls P f #[] w fun e w' => e = .returned (.bool true) ∧ w.keptBut w' (fun _ => False) := by
  unfold isTrue at h
  split at h
  · rename_i h' hr
    refine (run_sound (ρ := ⟨fun _ => 0, fun _ _ => 0, fun _ _ => false⟩) (μ := mu0) (us := #[]) X0_ok PC.holds_nil hm Rel0 (VRs_nil.2 rfl) rfl hr).mono ?_
    rintro e w' ⟨x, μ', rfl, h1, _, S, _⟩
    rw [VR] at h1
    subst h1
    exact ⟨rfl, S.kept fun id b h => by cases (show (none : Option Blk) = some b from h)⟩
  · cases h

end Go.Ev
