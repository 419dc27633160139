/- Forms in memory; what is asked of one of them; no conditions. -/
import Derived.Test.YtcibejieeieknaaGreatDoorTpR
import Derived.Test.YtcibejieeieknaaGreatDoorChecked
set_option linter.unusedSimpArgs false
set_option linter.unusedVariables false
namespace Go.Proofs.YtcibejieeieknaaGreatDoor
open Go.Ev
namespace Ev

/-! ### A form in memory -/
def SlAt (w : World) (v : Value) (l : List Int) : Prop :=
  (l = [] ∧ v = .slice none 0 0) ∨ (l ≠ [] ∧ ∃ (b off cap : Nat) (c : Array Value) (e : TypeId) (fr : Nat × Nat), v = .slice (some ⟨b, off, none⟩) l.length cap ∧ l.length ≤ cap ∧ off + cap ≤ c.size ∧ w.heap[b]? = some (.cells c e fr) ∧ ∀ (i : Nat) (z : Int), l[i]? = some z → c[off + i]? = some (.int .i64 z))

def aggR (r : Row) (s1 s2 : Value) : Value := .agg #[.int .i64 r.op, s1, s2, .int .i64 r.pre, .int .i64 r.map, .int .i64 r.code, .int .i64 r.digit, .int .i64 r.w, .bool r.vex, .int .i64 r.l]

structure RowAt (w : World) (v : Value) (r : Row) : Prop where
  val : ∃ s1 s2, v = aggR r s1 s2 ∧ SlAt w s1 r.sh ∧ SlAt w s2 r.sl
  obj : ∃ (b : Nat) (c : Array Value) (e : TypeId) (fr : Nat × Nat), w.heap[b]? = some (.cells c e fr)

theorem SlAt.keep {w w' : World} {v : Value} {l : List Int} (h : SlAt w v l) (hk : ∀ b, b < w.heap.size → w'.heap[b]? = w.heap[b]?) : SlAt w' v l := by
  rcases h with h | ⟨h0, b, off, cap, c, e, fr, h1, h2, h3, h4, h5⟩
  · exact .inl h
  · exact .inr ⟨h0, b, off, cap, c, e, fr, h1, h2, h3, by rw [hk b (Array.getElem?_eq_some_iff.1 h4).1]; exact h4, h5⟩
theorem RowAt.keep {w w' : World} {v : Value} {r : Row} (h : RowAt w v r) (hk : ∀ b, b < w.heap.size → w'.heap[b]? = w.heap[b]?) : RowAt w' v r := by
  obtain ⟨⟨s1, s2, h1, h2, h3⟩, b, c, e, fr, h4⟩ := h
  exact ⟨⟨s1, s2, h1, h2.keep hk, h3.keep hk⟩, b, c, e, fr, by rw [hk b (Array.getElem?_eq_some_iff.1 h4).1]; exact h4⟩

section
variable {ρ : Env} {pc : PC} {μ : Mu} {h : H} {w : World} {us : Array Value}
theorem hmixS : Tryz.prog.follows .mixedOrders = true := Tryz.checked.mixed

/-- A slice's place as a block's. -/
theorem slBlk {v : Value} {l : List Int} {id : Nat} (h : SlAt w v l) : ∃ loc : Option Ev.Loc, (l = [] → loc = none) ∧ ∀ μ : Mu, μ id = loc → VR ρ μ (slAV id l) v ∧
    ∀ p, loc = some p → ∃ o, w.heap[p.1]? = some o ∧ BR ρ μ p (sblk l) o := by
  rcases h with ⟨rfl, rfl⟩ | ⟨h0, b, off, cap, c, e, fr, rfl, h2, h3, h4, h5⟩
  · exact ⟨none, fun _ => rfl, fun μ hμ => ⟨by show VR ρ μ .nils _; rw [VR], fun p hp => by cases hp⟩⟩
  · refine ⟨some (b, off, c.size), fun h => absurd h h0, fun μ hμ => ⟨?_, ?_⟩⟩
    · cases l with
      | nil => exact absurd rfl h0
      | cons z r =>
        show VR ρ μ (.slc id 0 (z :: r).length false (z :: r).length 1) _
        rw [VR]
        exact ⟨(b, off, c.size), cap, hμ, rfl, (fun h => by cases h), h2, Nat.le_refl _, by simpa using h3⟩
    · intro p hp
      cases hp
      refine ⟨_, h4, c, e, fr, rfl, rfl, by simp only; omega, (fun h => by cases h), ?_⟩
      intro j u hj hu
      have hu := puts_get hu
      rw [List.getElem?_map] at hu
      cases hz : l[j]? with
      | none => rw [hz] at hu; cases hu
      | some z =>
        rw [hz] at hu
        cases hu
        exact ⟨_, h5 j z hz, by rw [VR]; rfl⟩

theorem putS_get {id : Nat} {l : List Int} {t : T Blk} {k : Nat} {b : Blk} (h : (putS id l t).get k = some b) : (k = id ∧ l ≠ [] ∧ b = sblk l) ∨ t.get k = some b := by
  cases l with
  | nil => exact .inr h
  | cons z r =>
    have h : (t.put id (sblk (z :: r))).get k = some b := h
    rw [T.get_put] at h
    split at h
    · rename_i e; cases h; exact .inl ⟨e, by simp, rfl⟩
    · exact .inr h

/-- A form in memory as the evaluator has it. -/
theorem rowRel {g : G} {nx : Nat} (R : Rel ρ μ g nx w) {v : Value} {r : Row} (hr : RowAt w v r) (ρ' : Env) : ∃ μ' : Mu, Rel ρ' μ' (Hrow r).get (Hrow r).next w ∧ VR ρ' μ' (rowAV r) v := by
  obtain ⟨⟨s1, s2, rfl, h1, h2⟩, _⟩ := hr
  obtain ⟨l1, n1, q1⟩ := slBlk (ρ := ρ') (id := 64) h1
  obtain ⟨l2, n2, q2⟩ := slBlk (ρ := ρ') (id := 65) h2
  let μ' : Mu := fun k => if k = 64 then l1 else if k = 65 then l2 else muG μ k
  have e1 : μ' 64 = l1 := rfl
  have e2 : μ' 65 = l2 := rfl
  obtain ⟨v1, b1⟩ := q1 μ' e1
  obtain ⟨v2, b2⟩ := q2 μ' e2
  have hget : ∀ {id : Nat} {b : Blk}, (Hrow r).get id = some b → (id = 65 ∧ r.sl ≠ [] ∧ b = sblk r.sl) ∨ (id = 64 ∧ r.sh ≠ [] ∧ b = sblk r.sh) := by
    intro id b hb
    have hb : (putS 65 r.sl (putS 64 r.sh .nil)).get id = some b := hb
    rcases putS_get hb with h | hb
    · exact .inl h
    · rcases putS_get hb with h | hb
      · exact .inr h
      · rw [T.get_nil] at hb; cases hb
  have some1 : r.sh ≠ [] → ∃ p, l1 = some p := by
    intro hne
    cases hl : l1 with
    | some p => exact ⟨p, rfl⟩
    | none =>
      rcases h1 with ⟨h, _⟩ | ⟨_, b, off, cap, c, e, fr, hv, _⟩
      · exact absurd h hne
      · rw [hv] at v1
        cases hsh : r.sh with
        | nil => exact absurd hsh hne
        | cons z t =>
          rw [hsh] at v1
          have v1 : VR ρ' μ' (.slc 64 0 (z :: t).length false (z :: t).length 1) _ := v1
          rw [VR] at v1
          obtain ⟨p, _, hp, _⟩ := v1
          rw [e1, hl] at hp; cases hp
  have some2 : r.sl ≠ [] → ∃ p, l2 = some p := by
    intro hne
    cases hl : l2 with
    | some p => exact ⟨p, rfl⟩
    | none =>
      rcases h2 with ⟨h, _⟩ | ⟨_, b, off, cap, c, e, fr, hv, _⟩
      · exact absurd h hne
      · rw [hv] at v2
        cases hsh : r.sl with
        | nil => exact absurd hsh hne
        | cons z t =>
          rw [hsh] at v2
          have v2 : VR ρ' μ' (.slc 65 0 (z :: t).length false (z :: t).length 1) _ := v2
          rw [VR] at v2
          obtain ⟨p, _, hp, _⟩ := v2
          rw [e2, hl] at hp; cases hp
  refine ⟨μ', ⟨?_, ?_, ?_, ?_⟩, ?_⟩
  · intro id b hb
    rcases hget hb with ⟨rfl, hne, rfl⟩ | ⟨rfl, hne, rfl⟩
    · obtain ⟨p, hp⟩ := some2 hne
      obtain ⟨o, ho, hB⟩ := b2 p hp
      exact ⟨p, o, by rw [e2, hp], ho, hB⟩
    · obtain ⟨p, hp⟩ := some1 hne
      obtain ⟨o, ho, hB⟩ := b1 p hp
      exact ⟨p, o, by rw [e1, hp], ho, hB⟩
  · intro i j b b' p q hi hj ho
    rcases hget hi with ⟨_, _, rfl⟩ | ⟨_, _, rfl⟩ <;> cases ho
  · intro id p hp
    show id < 66
    simp only [μ'] at hp
    split at hp
    · omega
    · split at hp
      · omega
      · unfold muG at hp
        split at hp
        · omega
        · cases hp
  · intro k hk
    obtain ⟨z, hz⟩ := R.glob k hk
    exact ⟨z, by simp only [μ']; rw [if_neg (by omega), if_neg (by omega)]; unfold muG; rw [if_pos hk]; exact hz⟩
  · show VR ρ' μ' (.agg [ii r.op, slAV 64 r.sh, slAV 65 r.sl, ii r.pre, ii r.map, ii r.code, ii r.digit, ii r.w, .bool (.lit r.vex), ii r.l]) _
    rw [VR]
    refine ⟨_, rfl, ?_⟩
    simp only [VRs]
    refine ⟨_, _, rfl, by rw [VR]; rfl, _, _, rfl, v1, _, _, rfl, v2, _, _, rfl, by rw [VR]; rfl, _, _, rfl, by rw [VR]; rfl, _, _, rfl, by rw [VR]; rfl, _, _, rfl, by rw [VR]; rfl, _, _, rfl, by rw [VR]; rfl, _, _, rfl, by rw [VR]; rfl, _, _, rfl, by rw [VR]; rfl, rfl⟩

theorem Hrow_own {r : Row} {id : Nat} {b : Blk} (h : (Hrow r).get id = some b) : b.own = false := by
  have hb : (putS 65 r.sl (putS 64 r.sh .nil)).get id = some b := h
  rcases putS_get hb with ⟨_, _, rfl⟩ | hb
  · rfl
  · rcases putS_get hb with ⟨_, _, rfl⟩ | hb
    · rfl
    · rw [T.get_nil] at hb; cases hb

/-- What a function tells of a form alone. -/
theorem rowC {f : Nat} {res : Row → AV} {r : Row} {v : Value} (R : Rel ρ μ h.get h.next w) (hr : RowAt w v r) (hc : chk1 f res r = true) (hu : us.toList = [v]) (hl : ∀ μ1 μ2 x, VR ρ μ1 (res r) x → VR ρ μ2 (res r) x) :
    CallsIn Fence.wide 0 Tryz.prog f us w (FnPost ρ μ h w (res r) h) := by
  unfold chk1 at hc
  split at hc
  · rename_i x hh hrun
    have hx := AV.beq_eq hc
    subst hx
    obtain ⟨μ', R', hv⟩ := rowRel R hr ρ
    refine callsIn_wide.2 ((run_sound X0_ok PC.holds_nil hmixS R' (by rw [hu]; exact VRs_cons.2 ⟨_, _, rfl, hv, VRs_nil.2 rfl⟩) rfl hrun).mono ?_)
    rintro e w' ⟨y, μ1, rfl, hy, _, S1, _⟩
    obtain ⟨R2, S2⟩ := lift1 R S1 (fun id b h => Hrow_own h)
    exact ⟨y, μ, rfl, hl _ _ _ hy, R2, S2, Nat.le_refl _⟩
  · cases hc

theorem codesC {r : Row} {v : Value} {n : Int} (R : Rel ρ μ h.get h.next w) (hr : RowAt w v r) (hc : chk2 r = true) (hu : us.toList = [v, .int .i64 n]) :
    CallsIn Fence.wide 0 Tryz.prog 54 us w (FnPost ρ μ h w (.bool (codesSB r (.lit n))) h) := by
  unfold chk2 at hc
  split at hc
  · rename_i x hh hrun
    have hx := AV.beq_eq hc
    subst hx
    obtain ⟨μ', R', hv⟩ := rowRel R hr (⟨fun _ => n, fun _ _ => 0, fun _ _ => false⟩ : Env)
    refine callsIn_wide.2 ((run_sound X0_ok PC.holds_nil hmixS R' (by rw [hu]; exact VRs_cons.2 ⟨_, _, rfl, hv, VRs_cons.2 ⟨_, _, rfl, by rw [VR]; rfl, VRs_nil.2 rfl⟩⟩) rfl hrun).mono ?_)
    rintro e w' ⟨y, μ1, rfl, hy, _, S1, _⟩
    obtain ⟨R2, S2⟩ := lift1 R S1 (fun id b h => Hrow_own h)
    refine ⟨y, μ, rfl, ?_, R2, S2, Nat.le_refl _⟩
    rw [VR] at hy ⊢
    rw [hy]
    unfold codesSB
    cases cdI r <;> rfl
  · cases hc
end
end Ev
end Go.Proofs.YtcibejieeieknaaGreatDoor
