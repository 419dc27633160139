/- What vex.Check, vex.pp and vex.Read tell, of any numbers and any bytes; no conditions. -/
import Derived.Test.YtlngklpiapbpmaaVxC
import Derived.Test.YtlngklpiapbpmaaChecked
set_option linter.unusedSimpArgs false
set_option linter.unusedVariables false
namespace Go.Proofs.Ytlngklpiapbpmaa
open Go.Ev
namespace Ev
section
variable {ρ : Env} {pc : PC} {μ : Mu} {h : H} {w : World} {us : Array Value}
theorem hmix : Try.prog.follows .mixedOrders = true := Try.checked.mixed

def envZ (zs : Nat → Int) : Env := ⟨fun i => zs (i - 200), fun _ xs => ppI (xs.headD 0), fun _ _ => false⟩
def goodI (zs : Nat → Int) : Bool := (goodS 200).den (envZ zs)

theorem vF_holds {ρ : Env} {μ : Mu} {b : Nat} {zs : Nat → Int} (hz : ∀ i, i < 8 → ρ.v (b + i) = zs i) : VR ρ μ (vF b) (.agg ((List.range 8).map fun i => Value.int .i64 (zs i)).toArray) := by
  unfold vF
  rw [VR]
  refine ⟨_, rfl, ?_⟩
  simp only [List.range, List.range.loop, List.map, VRs, VR, SE.den]
  refine ⟨_, _, rfl, by rw [hz 0 (by decide)], _, _, rfl, by rw [hz 1 (by decide)], _, _, rfl, by rw [hz 2 (by decide)], _, _, rfl, by rw [hz 3 (by decide)], _, _, rfl, by rw [hz 4 (by decide)], _, _, rfl, by rw [hz 5 (by decide)], _, _, rfl, by rw [hz 6 (by decide)], _, _, rfl, by rw [hz 7 (by decide)], rfl⟩

theorem checkC (R : Rel ρ μ h.get h.next w) (zs : Nat → Int) (hu : us.toList = [.agg ((List.range 8).map fun i => Value.int .i64 (zs i)).toArray]) :
    CallsIn Fence.wide 0 Try.prog 16 us w (FnPost ρ μ h w (.int .i64 (.lit (bif goodI zs then 0 else 2))) h) := by
  obtain ⟨pc', v, h', hp', hgo, hck⟩ := auto_spec (ρ := envZ zs) cCheck PC.holds_nil
  have hv : VRs (envZ zs) (muG μ) [vF 200] us.toList := by
    rw [hu]
    exact VRs_cons.2 ⟨_, _, rfl, vF_holds (fun i hi => by show zs (200 + i - 200) = zs i; rw [Nat.add_sub_cancel_left]), VRs_nil.2 rfl⟩
  refine callsIn_wide.2 ((run_sound X0_ok hp' hmix (RelN R.glob) hv rfl hgo).mono ?_)
  rintro e w' ⟨x, μ1, rfl, hx, _, S1, _⟩
  obtain ⟨R', S'⟩ := lift0 R S1
  refine ⟨x, μ, rfl, ?_, R', S', Nat.le_refl _⟩
  unfold chkC at hck
  unfold goodI
  split at hck
  · have := dec_spec hp' (isSome_eq hck)
    rw [this]
    rw [VR] at hx ⊢
    rw [hx]; rfl
  · have := dec_spec hp' (isSome_eq hck)
    rw [this]
    rw [VR] at hx ⊢
    rw [hx]; rfl
  · cases hck

theorem ppC (R : Rel ρ μ h.get h.next w) (z : Int) (hu : us.toList = [.int .i64 z]) :
    CallsIn Fence.wide 0 Try.prog 23 us w (FnPost ρ μ h w (.int .i64 (.lit (ppI z))) h) := by
  obtain ⟨pc', v, h', hp', hgo, hck⟩ := auto_spec (ρ := (⟨fun _ => z, fun _ _ => 0, fun _ _ => false⟩ : Env)) cPP PC.holds_nil
  have hv : VRs (⟨fun _ => z, fun _ _ => 0, fun _ _ => false⟩ : Env) (muG μ) [.int .i64 (.var 0)] us.toList := by
    rw [hu]
    exact VRs_cons.2 ⟨_, _, rfl, by rw [VR]; rfl, VRs_nil.2 rfl⟩
  refine callsIn_wide.2 ((run_sound X0_ok hp' hmix (RelN R.glob) hv rfl hgo).mono ?_)
  rintro e w' ⟨x, μ1, rfl, hx, _, S1, _⟩
  obtain ⟨R', S'⟩ := lift0 R S1
  refine ⟨x, μ, rfl, ?_, R', S', Nat.le_refl _⟩
  unfold chkP at hck
  split at hck
  · have := dec_spec hp' (isSome_eq hck)
    simp only [SB.den, SE.den, Bool.and_eq_true, Bool.not_eq_true', beq_eq_false_iff_ne, ne_eq] at this
    rw [VR] at hx ⊢
    rw [hx]
    simp only [SE.den]
    unfold ppI
    rw [if_neg (by simpa using this.1), if_neg (by simpa using this.2.1), if_neg (by simpa using this.2.2)]
    rfl
  · have := dec_spec hp' (isSome_eq hck)
    simp only [SB.den, SE.den, beq_iff_eq] at this
    rw [VR] at hx ⊢
    rw [hx]
    simp only [SE.den]
    rw [this]; rfl
  · have := dec_spec hp' (isSome_eq hck)
    simp only [SB.den, SE.den, beq_iff_eq] at this
    rw [VR] at hx ⊢
    rw [hx]
    simp only [SE.den]
    rw [this]; rfl
  · have := dec_spec hp' (isSome_eq hck)
    simp only [SB.den, SE.den, beq_iff_eq] at this
    rw [VR] at hx ⊢
    rw [hx]
    simp only [SE.den]
    rw [this]; rfl
  · cases hck

/-! ### vex.Read -/
def zero8 : List Int := [0, 0, 0, 0, 0, 0, 0, 0]
def twoI (b : Int) : List Int := [1 - b.tdiv 128, 0, 0, 1, 0, 15 - (b.tdiv 8).tmod 16, (b.tdiv 4).tmod 2, preI (b.tmod 4)]
def thrI (b c : Int) : List Int := [1 - b.tdiv 128, 1 - (b.tdiv 64).tmod 2, 1 - (b.tdiv 32).tmod 2, b.tmod 32, c.tdiv 128, 15 - (c.tdiv 8).tmod 16, (c.tdiv 4).tmod 2, preI (c.tmod 4)]
def rdF (n : Nat) (a b c : Int) : List Int × Int × Int :=
  if a ≠ 196 ∧ a ≠ 197 then (zero8, 0, 4) else if n = 1 then (zero8, 0, 9) else if a = 197 then (twoI b, 2, 0)
  else if b.tmod 32 < 1 ∨ 3 < b.tmod 32 then (zero8, 0, 4) else if n = 2 then (zero8, 0, 9) else (thrI b c, 3, 0)
def rdV (r : List Int × Int × Int) : Value := .tuple #[.agg (r.1.map (Value.int .i64)).toArray, .int .i64 r.2.1, .int .i64 r.2.2]

theorem VR_ints {ρ : Env} {μ : Mu} {l : List SE} {v : Value} (h : VR ρ μ (.agg (l.map i6)) v) : v = .agg ((l.map (SE.den ρ)).map (Value.int .i64)).toArray := by
  rw [VR] at h
  obtain ⟨ys, rfl, h⟩ := h
  congr 1
  apply Array.toList_inj.1
  rw [List.toList_toArray]
  have : ∀ (l : List SE) (ys : List Value), VRs ρ μ (l.map i6) ys → ys = (l.map (SE.den ρ)).map (Value.int .i64) := by
    intro l
    induction l with
    | nil => intro ys h; exact VRs_nil.1 h
    | cons e l ih =>
      intro ys h
      obtain ⟨y, r, rfl, h1, h2⟩ := VRs_cons.1 h
      rw [VR] at h1
      rw [h1, ih r h2]; rfl
  exact this l _ h

theorem VR_tup3 {ρ : Env} {μ : Mu} {l : List SE} {n e : SE} {v : Value} (h : VR ρ μ (.tup [.agg (l.map i6), i6 n, i6 e]) v) : v = rdV (l.map (SE.den ρ), n.den ρ, e.den ρ) := by
  rw [VR] at h
  obtain ⟨ys, rfl, h⟩ := h
  obtain ⟨y, r, e1, h1, h2⟩ := VRs_cons.1 h
  obtain ⟨y2, r2, rfl, h3, h4⟩ := VRs_cons.1 h2
  obtain ⟨y3, r3, rfl, h5, h6⟩ := VRs_cons.1 h4
  rw [VRs_nil] at h6
  subst h6
  have h1 := VR_ints h1
  rw [VR] at h3 h5
  subst h1; subst h3; subst h5
  unfold rdV
  congr 1
  exact Array.toList_inj.1 e1

theorem VR_tup3_mk {ρ : Env} {μ : Mu} {l : List SE} {n e : SE} : VR ρ μ (.tup [.agg (l.map i6), i6 n, i6 e]) (rdV (l.map (SE.den ρ), n.den ρ, e.den ρ)) := by
  rw [VR]
  refine ⟨_, rfl, VRs_cons.2 ⟨_, _, rfl, ?_, VRs_cons.2 ⟨_, _, rfl, by rw [VR], VRs_cons.2 ⟨_, _, rfl, by rw [VR], VRs_nil.2 rfl⟩⟩⟩⟩
  rw [VR]
  refine ⟨_, rfl, ?_⟩
  rw [List.toList_toArray]
  induction l with
  | nil => exact VRs_nil.2 rfl
  | cons e l ih => exact VRs_cons.2 ⟨_, _, rfl, by rw [VR], ih⟩

theorem pre4 {x : Int} {p : Nat × Nat} (hp : p ∈ prs) (h : x.tmod 4 = (p.1 : Int)) : preI (x.tmod 4) = (p.2 : Int) := by
  rw [h]
  simp only [prs, List.mem_cons, List.mem_nil_iff, or_false] at hp
  rcases hp with rfl | rfl | rfl | rfl <;> rfl

theorem cs_val {n : Nat} (hn : n = 1 ∨ n = 2 ∨ n = 3) {x : PC × AV} (hx : x ∈ csR n) (hp : PC.holds ρ x.1) {v : Value} (hv : VR ρ μ x.2 v) : v = rdV (rdF n (ρ.v 0) (ρ.v 1) (ρ.v 2)) := by
  have hbad : ∀ {pc : PC}, PC.holds ρ ([e0 196 false, e0 197 false] ++ pc) → ρ.v 0 ≠ 196 ∧ ρ.v 0 ≠ 197 := by
    intro pc h
    rw [holds_append, holds_cons, holds_cons] at h
    obtain ⟨⟨h1, h2, _⟩, _⟩ := h
    simp only [e0, SB.den, SE.den, beq_eq_false_iff_ne] at h1 h2
    exact ⟨h1, h2⟩
  have noVs : ∀ (e : Nat), noV e = .tup [.agg ([li 0, li 0, li 0, li 0, li 0, li 0, li 0, li 0].map i6), i6 (li 0), i6 (li e)] := fun e => rfl
  have h196 : ∀ {pc : PC}, PC.holds ρ (e0 196 true :: pc) → ρ.v 0 = 196 := by
    intro pc h
    have := (holds_cons.1 h).1
    simpa [e0, SB.den, SE.den] using this
  have h197 : ∀ {pc : PC}, PC.holds ρ (e0 197 true :: pc) → ρ.v 0 = 197 := by
    intro pc h
    have := (holds_cons.1 h).1
    simpa [e0, SB.den, SE.den] using this
  unfold csR at hx
  rcases List.mem_cons.1 hx with rfl | hx
  · have h0 := hbad hp
    rw [noVs] at hv
    rw [VR_tup3 hv]
    unfold rdF
    rw [if_pos h0]; rfl
  · rcases hn with rfl | rfl | rfl
    · simp only [show Nat.beq 1 1 = true from rfl, cond_true, List.mem_cons, List.mem_nil_iff, or_false] at hx
      rcases hx with rfl | rfl
      · have h0 := h196 hp
        rw [noVs] at hv
        rw [VR_tup3 hv]
        unfold rdF
        rw [if_neg (by omega), if_pos rfl]; rfl
      · have h0 := h197 hp
        rw [noVs] at hv
        rw [VR_tup3 hv]
        unfold rdF
        rw [if_neg (by omega), if_pos rfl]; rfl
    · simp only [show Nat.beq 2 1 = false from rfl, show Nat.beq 3 1 = false from rfl, cond_false, List.mem_cons, List.mem_append, List.mem_map] at hx
      rcases hx with rfl | rfl | ⟨p, hpp, rfl⟩ | hx
      · have h0 := h196 hp
        have h1 := (holds_cons.1 (holds_cons.1 hp).2).1
        have h1 := of_decide_eq_true h1
        rw [noVs] at hv
        rw [VR_tup3 hv]
        unfold rdF
        rw [if_neg (by omega), if_neg (by omega), if_neg (by omega), if_pos (.inl h1)]; rfl
      · have h0 := h196 hp
        have h1 := (holds_cons.1 (holds_cons.1 hp).2).1
        have h1 := of_decide_eq_true h1
        rw [noVs] at hv
        rw [VR_tup3 hv]
        unfold rdF
        rw [if_neg (by omega), if_neg (by omega), if_neg (by omega), if_pos (.inr h1)]; rfl
      · have h0 := h197 hp
        have h1 := (holds_cons.1 (holds_cons.1 hp).2).1
        simp only [SB.den, SE.den, beq_iff_eq] at h1
        have e : two p.2 = .tup [.agg ([.sub (li 1) (.quo b1 (li 128)), li 0, li 0, li 1, li 0, .sub (li 15) (.rem (.quo b1 (li 8)) (li 16)), .rem (.quo b1 (li 4)) (li 2), li p.2].map i6), i6 (li 2), i6 (li 0)] := rfl
        rw [e] at hv
        rw [VR_tup3 hv]
        unfold rdF
        rw [if_neg (by omega), if_neg (by omega), if_pos h0]
        unfold twoI
        rw [pre4 hpp h1]; rfl
      · simp only [show Nat.beq 2 2 = true from rfl, cond_true, List.mem_cons, List.mem_nil_iff, or_false] at hx
        subst hx
        have h0 := h196 hp
        have h1 := (holds_cons.1 (holds_cons.1 hp).2).1
        have h2 := (holds_cons.1 (holds_cons.1 (holds_cons.1 hp).2).2).1
        simp only [SB.den, SE.den, decide_eq_false_iff_not] at h1 h2
        rw [noVs] at hv
        rw [VR_tup3 hv]
        unfold rdF
        rw [if_neg (by omega), if_neg (by omega), if_neg (by omega), if_neg (fun h => h.elim (of_decide_eq_false h1) (of_decide_eq_false h2)), if_pos rfl]; rfl
    · simp only [show Nat.beq 2 1 = false from rfl, show Nat.beq 3 1 = false from rfl, cond_false, List.mem_cons, List.mem_append, List.mem_map] at hx
      rcases hx with rfl | rfl | ⟨p, hpp, rfl⟩ | hx
      · have h0 := h196 hp
        have h1 := (holds_cons.1 (holds_cons.1 hp).2).1
        have h1 := of_decide_eq_true h1
        rw [noVs] at hv
        rw [VR_tup3 hv]
        unfold rdF
        rw [if_neg (by omega), if_neg (by omega), if_neg (by omega), if_pos (.inl h1)]; rfl
      · have h0 := h196 hp
        have h1 := (holds_cons.1 (holds_cons.1 hp).2).1
        have h1 := of_decide_eq_true h1
        rw [noVs] at hv
        rw [VR_tup3 hv]
        unfold rdF
        rw [if_neg (by omega), if_neg (by omega), if_neg (by omega), if_pos (.inr h1)]; rfl
      · have h0 := h197 hp
        have h1 := (holds_cons.1 (holds_cons.1 hp).2).1
        simp only [SB.den, SE.den, beq_iff_eq] at h1
        have e : two p.2 = .tup [.agg ([.sub (li 1) (.quo b1 (li 128)), li 0, li 0, li 1, li 0, .sub (li 15) (.rem (.quo b1 (li 8)) (li 16)), .rem (.quo b1 (li 4)) (li 2), li p.2].map i6), i6 (li 2), i6 (li 0)] := rfl
        rw [e] at hv
        rw [VR_tup3 hv]
        unfold rdF
        rw [if_neg (by omega), if_neg (by omega), if_pos h0]
        unfold twoI
        rw [pre4 hpp h1]; rfl
      · simp only [show Nat.beq 3 2 = false from rfl, cond_false, List.mem_map] at hx
        obtain ⟨p, hpp, rfl⟩ := hx
        have h0 := h196 hp
        have h1 := (holds_cons.1 (holds_cons.1 hp).2).1
        have h2 := (holds_cons.1 (holds_cons.1 (holds_cons.1 hp).2).2).1
        have h3 := (holds_cons.1 (holds_cons.1 (holds_cons.1 (holds_cons.1 hp).2).2).2).1
        simp only [SB.den, SE.den, decide_eq_false_iff_not, beq_iff_eq] at h1 h2 h3
        have e : three p.2 = .tup [.agg ([.sub (li 1) (.quo b1 (li 128)), .sub (li 1) (.rem (.quo b1 (li 64)) (li 2)), .sub (li 1) (.rem (.quo b1 (li 32)) (li 2)), .rem b1 (li 32), .quo b2 (li 128), .sub (li 15) (.rem (.quo b2 (li 8)) (li 16)), .rem (.quo b2 (li 4)) (li 2), li p.2].map i6), i6 (li 3), i6 (li 0)] := rfl
        rw [e] at hv
        rw [VR_tup3 hv]
        unfold rdF
        rw [if_neg (by omega), if_neg (by omega), if_neg (by omega), if_neg (fun h => h.elim (of_decide_eq_false h1) (of_decide_eq_false h2)), if_neg (by omega)]
        unfold thrI
        rw [pre4 hpp h3]; rfl

theorem four {x : Int} (h : 0 ≤ x) : ∃ p ∈ prs, x.tmod 4 = (p.1 : Int) := by
  have h1 := Int.emod_nonneg x (show (4 : Int) ≠ 0 by decide)
  have h2 := Int.emod_lt_of_pos x (show (0 : Int) < 4 by decide)
  have h3 : x.tmod 4 = x % 4 := Int.tmod_eq_emod_of_nonneg h
  rcases (show x % 4 = 0 ∨ x % 4 = 1 ∨ x % 4 = 2 ∨ x % 4 = 3 by omega) with e | e | e | e
  · exact ⟨(0, 0), by simp [prs], by rw [h3, e]; rfl⟩
  · exact ⟨(1, 1), by simp [prs], by rw [h3, e]; rfl⟩
  · exact ⟨(2, 4), by simp [prs], by rw [h3, e]; rfl⟩
  · exact ⟨(3, 2), by simp [prs], by rw [h3, e]; rfl⟩

theorem cover {n : Nat} (hn : n = 1 ∨ n = 2 ∨ n = 3) (hc : PC.holds ρ (com n)) (h0 : 0 ≤ ρ.v 1) (h1 : 0 ≤ ρ.v 2) : ∃ x ∈ csR n, PC.holds ρ x.1 := by
  by_cases a : ρ.v 0 = 196
  · have q : (e0 196 true).1.den ρ = (e0 196 true).2 := by simp [e0, SB.den, SE.den, a]
    rcases hn with rfl | hn
    · exact ⟨_, List.mem_cons_of_mem _ List.mem_cons_self, by rw [holds_append, holds_cons]; exact ⟨⟨q, PC.holds_nil⟩, hc⟩⟩
    · have hb : Nat.beq n 1 = false := by rcases hn with rfl | rfl <;> rfl
      unfold csR
      rw [hb]
      by_cases hlo : (ρ.v 1).tmod 32 < 1
      · exact ⟨_, List.mem_cons_of_mem _ List.mem_cons_self, by rw [holds_append, holds_cons, holds_cons]; exact ⟨⟨q, decide_eq_true hlo, PC.holds_nil⟩, hc⟩⟩
      · by_cases hhi : 3 < (ρ.v 1).tmod 32
        · exact ⟨_, List.mem_cons_of_mem _ (List.mem_cons_of_mem _ List.mem_cons_self), by rw [holds_append, holds_cons, holds_cons]; exact ⟨⟨q, decide_eq_true hhi, PC.holds_nil⟩, hc⟩⟩
        · rcases hn with rfl | rfl
          · exact ⟨_, List.mem_cons_of_mem _ (List.mem_cons_of_mem _ (List.mem_cons_of_mem _ (List.mem_append_right _ List.mem_cons_self))), by rw [holds_append, holds_cons, holds_cons, holds_cons]; exact ⟨⟨q, decide_eq_false hlo, decide_eq_false hhi, PC.holds_nil⟩, hc⟩⟩
          · obtain ⟨p, hp, he⟩ := four h1
            refine ⟨_, List.mem_cons_of_mem _ (List.mem_cons_of_mem _ (List.mem_cons_of_mem _ (List.mem_append_right _ (List.mem_map.2 ⟨p, hp, rfl⟩)))), ?_⟩
            rw [holds_append, holds_cons, holds_cons, holds_cons, holds_cons]
            exact ⟨⟨q, decide_eq_false hlo, decide_eq_false hhi, by simpa [SB.den, SE.den] using he, PC.holds_nil⟩, hc⟩
  · by_cases b : ρ.v 0 = 197
    · have q : (e0 197 true).1.den ρ = (e0 197 true).2 := by simp [e0, SB.den, SE.den, b]
      rcases hn with rfl | hn
      · exact ⟨_, List.mem_cons_of_mem _ (List.mem_cons_of_mem _ List.mem_cons_self), by rw [holds_append, holds_cons]; exact ⟨⟨q, PC.holds_nil⟩, hc⟩⟩
      · have hb : Nat.beq n 1 = false := by rcases hn with rfl | rfl <;> rfl
        unfold csR
        rw [hb]
        obtain ⟨p, hp, he⟩ := four h0
        refine ⟨_, List.mem_cons_of_mem _ (List.mem_cons_of_mem _ (List.mem_cons_of_mem _ (List.mem_append_left _ (List.mem_map.2 ⟨p, hp, rfl⟩)))), ?_⟩
        rw [holds_append, holds_cons, holds_cons]
        exact ⟨⟨q, by simpa [SB.den, SE.den] using he, PC.holds_nil⟩, hc⟩
    · exact ⟨_, List.mem_cons_self, by rw [holds_append, holds_cons, holds_cons]; exact ⟨⟨by simp [e0, SB.den, SE.den, a], by simp [e0, SB.den, SE.den, b], PC.holds_nil⟩, hc⟩⟩

/-- What some numbers say of the variables. -/
def envR (m : Nat) (zs : List Int) : Env := ⟨fun i => if i = 3 then m else zs.getD i 0, fun _ _ => 0, fun _ _ => false⟩

theorem rngs_holds {ρ : Env} : ∀ {n : Nat}, (∀ i, i < n → 0 ≤ ρ.v i ∧ ρ.v i ≤ 255) → PC.holds ρ (rngs n)
  | 0, _ => PC.holds_nil
  | n + 1, h => by
    unfold rngs
    rw [holds_append]
    refine ⟨rngs_holds fun i hi => h i (by omega), ?_⟩
    unfold rng
    rw [holds_cons, holds_cons]
    exact ⟨decide_eq_true (h n (by omega)).1, decide_eq_true (h n (by omega)).2, PC.holds_nil⟩

theorem Hn_get {n id : Nat} {b : Blk} (h : (Hn n).get id = some b) : id = 64 ∧ b = .cells false true 5 n (T.puts .nil 0 ((List.range n).map fun i => .int .u8 (.var i))) := by
  have h' : ((T.nil : T Blk).put 64 (.cells false true 5 n (T.puts .nil 0 ((List.range n).map fun i => .int .u8 (.var i))))).get id = some b := h
  rw [T.get_put] at h'
  split at h'
  · rename_i q; cases h'; exact ⟨q, rfl⟩
  · rw [T.get_nil] at h'; cases h'

theorem readC (R : Rel ρ μ h.get h.next w) {id off m cap : Nat} {ex : Bool} (hv : VRs ρ μ [.slc id off m ex cap 1] us.toList) {n : Nat} (hn : n = 1 ∨ n = 2 ∨ n = 3) (hnm : m = n ∨ (n = 3 ∧ 3 ≤ m))
    {ses : List SE} (hrd : rd h id off n = .ok (ses.map (AV.int .u8))) (hr : ∀ e ∈ ses, 0 ≤ e.den ρ ∧ e.den ρ ≤ 255) :
    CallsIn Fence.wide 0 Try.prog 8 us w (fun e w' => e = .returned (rdV (rdF n ((ses.map (SE.den ρ)).getD 0 0) ((ses.map (SE.den ρ)).getD 1 0) ((ses.map (SE.den ρ)).getD 2 0))) ∧ Rel ρ μ h.get h.next w' ∧ Stp μ h.get h.next w μ h.get w') := by
  obtain ⟨p, xs, c, e, fr, hp1, ho, hsz, hfit, hxs, hxl, hc⟩ := rd_spec R (fun b h => h) hrd
  have hlen : ses.length = n := by have := VRs_length hxs; simp at this; omega
  rw [VRs_cons] at hv
  obtain ⟨y, r, e1, q1, q2⟩ := hv
  rw [VRs_nil] at q2
  subst q2
  rw [VR] at q1
  obtain ⟨p', cp, hp2, rfl, _, q3, q4, q5⟩ := q1
  rw [hp1] at hp2
  cases hp2
  let ρ' := envR m (ses.map (SE.den ρ))
  have v0 : ρ'.v 0 = (ses.map (SE.den ρ)).getD 0 0 := rfl
  have v1 : ρ'.v 1 = (ses.map (SE.den ρ)).getD 1 0 := rfl
  have v2 : ρ'.v 2 = (ses.map (SE.den ρ)).getD 2 0 := rfl
  have hge : ∀ i, i < n → 0 ≤ ρ'.v i ∧ ρ'.v i ≤ 255 := by
    intro i hi
    have h3 : i ≠ 3 := by omega
    have : ρ'.v i = (ses[i]'(by omega)).den ρ := by
      show (if i = 3 then (m : Int) else (ses.map (SE.den ρ)).getD i 0) = _
      rw [if_neg h3]
      simp [List.getD, List.getElem?_eq_getElem (show i < ses.length by omega)]
    rw [this]
    exact hr _ (List.getElem_mem _)
  have nn : ∀ i, i < 3 → 0 ≤ ρ'.v i := by
    intro i hi
    by_cases h : i < n
    · exact (hge i h).1
    · have : ρ'.v i = 0 := by
        show (if i = 3 then (m : Int) else (ses.map (SE.den ρ)).getD i 0) = _
        rw [if_neg (by omega)]
        simp [List.getD, List.getElem?_eq_none (show ses.length ≤ i by omega)]
      omega
  have hcom : PC.holds ρ' (com n) := by
    unfold com
    refine holds_cons.2 ⟨?_, rngs_holds hge⟩
    unfold ln
    have v3 : ρ'.v 3 = m := rfl
    rcases hn with rfl | rfl | rfl
    · simp only [show Nat.beq 1 3 = false from rfl, cond_false, SB.den, SE.den, v3]
      have : m = 1 := by omega
      subst this; rfl
    · simp only [show Nat.beq 2 3 = false from rfl, cond_false, SB.den, SE.den, v3]
      have : m = 2 := by omega
      subst this; rfl
    · simp only [show Nat.beq 3 3 = true from rfl, cond_true, SB.den, SE.den, v3]
      have : 3 ≤ m := by omega
      simp; omega
  obtain ⟨x, hx, hpx⟩ := cover hn hcom (nn 1 (by omega)) (nn 2 (by omega))
  have hck : chkR3 n x = true := by
    rcases hn with rfl | rfl | rfl
    · exact List.all_eq_true.1 cR1 x hx
    · exact List.all_eq_true.1 cR2 x hx
    · exact List.all_eq_true.1 cR3 x hx
  unfold chkR3 at hck
  split at hck
  · rename_i v1' hh1 hrun
    let μ3 : Mu := fun k => if k = 64 then some (p.1, p.2.1 + off, p.2.2) else muG μ k
    have R3 : Rel ρ' μ3 (Hn n).get (Hn n).next w := by
      refine ⟨?_, ?_, ?_, ?_⟩
      · intro id' b hb
        obtain ⟨rfl, rfl⟩ := Hn_get hb
        refine ⟨(p.1, p.2.1 + off, p.2.2), _, by simp [μ3], ho, c, e, fr, rfl, hsz, hfit, (fun h => by cases h), ?_⟩
        intro j u hj hu
        have hu' := puts_get hu
        rw [List.getElem?_map, List.getElem?_range hj] at hu'
        cases hu'
        obtain ⟨z, z1, z2⟩ := VRs_nth (j := j) (u := .int .u8 ses[j]) hxs (by rw [List.getElem?_map, List.getElem?_eq_getElem (by omega)]; rfl)
        refine ⟨z, hc j z z1, ?_⟩
        rw [VR] at z2 ⊢
        rw [z2]
        have : ρ'.v j = (ses[j]'(by omega)).den ρ := by
          show (if j = 3 then (m : Int) else (ses.map (SE.den ρ)).getD j 0) = _
          rw [if_neg (by omega)]
          simp [List.getD, List.getElem?_eq_getElem (show j < ses.length by omega)]
        simp only [SE.den]
        rw [this]
      · intro i j b b' q q' hi hj hb
        obtain ⟨rfl, rfl⟩ := Hn_get hi
        cases hb
      · intro id' q hq
        show id' < 65
        simp only [μ3] at hq
        split at hq
        · omega
        · unfold muG at hq
          split at hq
          · omega
          · cases hq
      · intro k hk
        obtain ⟨z, hz⟩ := R.glob k hk
        exact ⟨z, by simp only [μ3]; rw [if_neg (by omega)]; unfold muG; rw [if_pos hk]; exact hz⟩
    have hv3 : VRs ρ' μ3 [.slv 64 0 n (.var 3) 1] us.toList := by
      rw [VRs_cons]
      refine ⟨_, _, e1, ?_, VRs_nil.2 rfl⟩
      rw [VR]
      exact ⟨(p.1, p.2.1 + off, p.2.2), cp, _, by simp, by simp [μ3], rfl, by omega, Nat.le_trans q4 q3, by simpa using q5⟩
    refine callsIn_wide.2 ((run_sound X0_ok hpx hmix R3 hv3 rfl hrun).mono ?_)
    rintro e' w' ⟨y, μ1, rfl, hx', _, S1, _⟩
    obtain ⟨R', S'⟩ := lift1 R S1 (fun id b h => by obtain ⟨_, rfl⟩ := Hn_get h; rfl)
    have := cs_val (μ := fun _ => none) hn hx hpx (AV.same_spec hpx hck hx')
    rw [v0, v1, v2] at this
    exact ⟨by rw [this], R', S'⟩
  · cases hck
end
end Ev
end Go.Proofs.Ytlngklpiapbpmaa
