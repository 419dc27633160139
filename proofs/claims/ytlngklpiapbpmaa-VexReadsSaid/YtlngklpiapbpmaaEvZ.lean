/- A summary of a function without input holds of the model; no theorem of the program yet; no conditions. -/
import Derived.Test.YtlngklpiapbpmaaEvY
set_option linter.unusedSimpArgs false
set_option linter.unusedVariables false
namespace Go.Ev
section
variable {ρ : Env} {P : Program} {pc : PC}

theorem sum_ok {v : AV} {nx : Nat} {l : List SBlk} {k f : Nat} (hm : P.follows .mixedOrders = true) (h : chkSum v nx l (run P X0 [] k f [] H0) = true)
    (hfn : ∃ fn, P.funcs[f]? = some fn ∧ fn.body.isNone = false ∧ (fn.name == "runtime.NumGoroutine") = false) : FnOK P ρ (sumOf v nx l pc) f := by
  intro args hh v' h' hr
  refine ⟨hfn, ?_⟩
  intro μ w us R hv
  unfold chkSum at h
  split at h
  · rename_i v1 h1 hrun
    simp only [Bool.and_eq_true] at h
    obtain ⟨hveq, hnx, hall⟩ := h
    have hveq := AV.beq_eq hveq
    subst hveq
    have hnx : h1.next ≤ nx := by simpa using hnx
    cases args with
    | cons a as => cases hr
    | nil =>
      have hr0 : Res.ok (v1.sh (hh.next - 64), (⟨nx + (hh.next - 64), laySum (hh.next - 64) hh.tr l⟩ : H)) = .ok (v', h') := hr
      cases hr0
      rw [VRs_nil] at hv
      have hus : us = #[] := by apply Array.ext'; simpa using hv
      subst hus
      have h64 : 64 ≤ hh.next := by obtain ⟨z, hz⟩ := R.glob 63 (by omega); have := R.fresh _ _ hz; omega
      refine callsIn_wide.2 ((run_sound X0_ok PC.holds_nil hm (RelG R) (VRs_nil.2 rfl) rfl hrun).mono ?_)
      rintro e w' ⟨x, μ1, rfl, hx, R1, S1, n1⟩
      have hsh := muS_sh h64 S1.le R.glob
      have n1 : 64 ≤ h1.next := n1
      have hkeep : ∀ b, b < w.heap.size → w'.heap[b]? = w.heap[b]? := fun b hb => S1.frame b hb fun id bk p h => by cases (show (none : Option Blk) = some bk from h)
      have hnew : ∀ id b p, h1.get id = some b → μ1 id = some p → w.heap.size ≤ p.1 := by
        intro id b p h2 h3
        rcases S1.own id b p h2 h3 with h4 | ⟨_, b', _, h4, _⟩
        · exact h4
        · cases (show (none : Option Blk) = some b' from h4)
      have old : ∀ {j : Nat} {p : Loc}, μ j = some p → muS μ μ1 hh.next j = some p := by
        intro j p hj
        unfold muS
        rw [if_pos (R.fresh _ _ hj)]; exact hj
      have hi : ∀ {id : Nat}, 64 ≤ id → shI (hh.next - 64) id = id + (hh.next - 64) := by
        intro id hid
        unfold shI
        have : Nat.blt id 64 = false := by
          cases hb : Nat.blt id 64 with
          | false => rfl
          | true => have : id < 64 := by simpa using hb
                    omega
        rw [this]; rfl
      -- a block: old or new
      have two : ∀ {j : Nat} {b : Blk}, (laySum (hh.next - 64) hh.tr l).get j = some b →
          (hh.get j = some b) ∨ (∃ id b1 p o, j = id + (hh.next - 64) ∧ 64 ≤ id ∧ h1.get id = some b1 ∧ μ1 id = some p ∧ muS μ μ1 hh.next j = some p ∧ w'.heap[p.1]? = some o ∧ BR ρ (muS μ μ1 hh.next) p b o ∧ b.own = true ∧ b1.own = true ∧ w.heap.size ≤ p.1) := by
        intro j b hb
        rcases laySum_get hb with hb | ⟨id, opn, e, cs, q1, q2, q3⟩
        · exact .inl hb
        · right
          obtain ⟨r1, b1, p, o, r2, r3, r4, r5⟩ := chkBlk_BR R1 (fun _ _ h => h) hsh (List.all_eq_true.1 hall _ q1)
          have r6 := hsh _ _ r3
          rw [hi r1, ← q2] at r6
          have ho : b1.own = true := by
            have hc := List.all_eq_true.1 hall _ q1
            simp only [chkBlk, r2] at hc
            cases b1 with
            | cells own opn' e' m vals => cases own <;> first | rfl | simp at hc
            | _ => rfl
          exact ⟨id, b1, p, o, q2, r1, r2, r3, r6, r4, q3 ▸ r5, by rw [q3]; rfl, ho, hnew _ _ _ r2 r3⟩
      have oldp : ∀ {j : Nat} {b : Blk} {p : Loc}, hh.get j = some b → muS μ μ1 hh.next j = some p → μ j = some p := by
        intro j b p hb hp
        obtain ⟨q, _, hq, _⟩ := R.blk _ _ hb
        rw [old hq] at hp
        cases hp
        exact hq
      refine ⟨x, muS μ μ1 hh.next, rfl, VR_sh hsh hx, ⟨?_, ?_, ?_, fun k hk => let ⟨z, hz⟩ := R.glob k hk; ⟨z, old hz⟩⟩, ⟨fun id p hp => old hp, ?_, ?_, S1.size, S1.tape, S1.os, S1.output, fun b hb _ => hkeep b hb, ?_, S1.fz⟩, ?_⟩
      · intro j b hb
        rcases two hb with hb | ⟨id, b1, p, o, q1, q2, q3, q4, q5, q6, q7, _⟩
        · obtain ⟨p, o, r1, r2, r3⟩ := R.blk _ _ hb
          exact ⟨p, o, old r1, by rw [hkeep _ (Array.getElem?_eq_some_iff.1 r2).1]; exact r2, BR_mono (fun _ _ h => old h) r3⟩
        · exact ⟨p, o, q5, q6, q7⟩
      · intro i j b b' p q hi' hj ho hne hp hq
        rcases two hi' with hi' | ⟨id, b1, p1, o, q1, q2, q3, q4, q5, q6, q7, q8, q9, q10⟩ <;> rcases two hj with hj | ⟨id', b2, p2, o', s1, s2, s3, s4, s5, s6, s7, s8, s9, s10⟩
        · exact R.inj i j b b' p q hi' hj ho hne (oldp hi' hp) (oldp hj hq)
        · rw [s5] at hq; cases hq
          have := R.lt hi' (oldp hi' hp)
          omega
        · rw [q5] at hp; cases hp
          have := R.lt hj (oldp hj hq)
          omega
        · rw [q5] at hp; cases hp
          rw [s5] at hq; cases hq
          exact R1.inj id id' b1 b2 _ _ q3 s3 q9 (fun e => hne (by rw [q1, s1, e])) q4 s4
      · intro id p hp
        show id < nx + (hh.next - 64)
        unfold muS at hp
        split at hp
        · omega
        · have := R1.fresh _ _ hp
          omega
      · intro id p hp
        unfold muS at hp
        split at hp
        · exact .inl hp
        · exact .inr (by omega)
      · intro j b hb
        rcases two hb with hb | ⟨id, b1, p, o, q1, q2, _⟩
        · exact .inl ⟨b, hb⟩
        · exact .inr (by omega)
      · intro j b p hb hp
        rcases two hb with hb | ⟨id, b1, p1, o, q1, q2, q3, q4, q5, q6, q7, q8, q9, q10⟩
        · exact .inr ⟨j, b, p, hb, oldp hb hp, rfl, fun h => h⟩
        · rw [q5] at hp; cases hp; exact .inl q10
      · show hh.next ≤ nx + (hh.next - 64)
        omega
  · cases h

end
end Go.Ev
