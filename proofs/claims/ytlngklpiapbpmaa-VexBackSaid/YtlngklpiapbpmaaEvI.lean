/- The evaluator's slices, lengths, literals are the model's; no theorem of the program yet; no conditions. -/
import Derived.Test.YtlngklpiapbpmaaEvH
set_option linter.unusedSimpArgs false
set_option linter.unusedVariables false
namespace Go.Ev
section
variable {ρ : Env} {μ : Mu} {P : Program} {pc : PC} {w : World}

/-! ### Bounds -/
theorem bndA_spec {a : AV} {v : Value} {y n y' : Nat} {code : BoundsCode} (hp : pc.holds ρ) (hv : VR ρ μ a v) (h : bndA pc a y = .ok n) (hy : y ≤ y') :
    (Instr.sliceBound v y' code).run P w = .ok n w ∧ n ≤ y := by
  unfold bndA at h
  obtain ⟨⟨k, e⟩, h1, h2⟩ := Res.bind_eq_ok h
  obtain ⟨h3, h4⟩ := below_spec hp h2
  have := asI_spec hp hv h1
  subst this
  refine ⟨?_, by omega⟩
  have h5 : n ≤ y' := by omega
  simp [Instr.sliceBound, asIntOf, h3, h5]

def OptR (ρ : Env) (μ : Mu) : Option AV → Option Value → Prop
  | none, v => v = none
  | some a, v => ∃ u, v = some u ∧ VR ρ μ a u

theorem optA_spec {ea : Operand → Res AV} {rv : Operand → Value} {x : Option Operand} {a : Option AV} (hx : ∀ y ∈ x.toArray, ∀ b, ea y = .ok b → VR ρ μ b (rv y)) (h : optA ea x = .ok a) : OptR ρ μ a (x.map rv) := by
  cases x with
  | none => simp [optA] at h; subst h; rfl
  | some x =>
    simp only [optA] at h
    obtain ⟨b, h1, h2⟩ := Res.bind_eq_ok h
    cases h2
    exact ⟨rv x, rfl, hx x (by simp) b h1⟩

theorem boundsA_spec {len cap c l h m : Nat} {ex ex' isS : Bool} {lo hi mx : Option AV} {lo' hi' mx' : Option Value} (hp : pc.holds ρ) (hlo : OptR ρ μ lo lo') (hhi : OptR ρ μ hi hi') (hmx : OptR ρ μ mx mx')
    (hex : ex = true → c = cap) (hc : cap ≤ c) (hl : len ≤ cap) (hr : boundsA pc len ex cap lo hi mx = .ok (l, h, ex', m)) :
    ∃ m', (Instr.sliceBounds isS len c lo' hi' mx').run P w = .ok (l, h, m') w ∧ l ≤ h ∧ h ≤ m ∧ m ≤ m' ∧ m' ≤ c ∧ (ex' = true → m' = m) := by
  have low : ∀ {y : Nat} {lo : Option AV} {lo' : Option Value} {code : BoundsCode} {k : Nat → Nat × Nat × Bool × Nat} {r : Nat × Nat × Bool × Nat}, OptR ρ μ lo lo' →
      (match lo with | none => .ok (k 0) | some l => (bndA pc l y).bind fun l => .ok (k l)) = Res.ok r → ∃ n, r = k n ∧ n ≤ y ∧ (match lo' with | some v => Instr.sliceBound v y code | none => pure 0 : Sem Nat).run P w = .ok n w := by
    intro y lo lo' code k r hlo h
    cases lo with
    | none => simp only [OptR] at hlo; subst hlo; cases h; exact ⟨0, rfl, Nat.zero_le _, rfl⟩
    | some a =>
      obtain ⟨u, rfl, hu⟩ := hlo
      obtain ⟨n, h1, h2⟩ := Res.bind_eq_ok h
      cases h2
      have := bndA_spec (P := P) (w := w) (code := code) hp hu h1 (Nat.le_refl _)
      exact ⟨n, rfl, this.2, this.1⟩
  unfold boundsA at hr
  cases mx with
  | some ma =>
    obtain ⟨mv, rfl, hmv⟩ := hmx
    obtain ⟨m1, h1, h2⟩ := Res.bind_eq_ok hr
    clear hr
    have b1 := bndA_spec (P := P) (w := w) (code := if isS then .slice3Acap else .slice3Alen) (y' := c) hp hmv h1 hc
    cases hi with
    | none => cases h2
    | some ha =>
      obtain ⟨hv, rfl, hhv⟩ := hhi
      obtain ⟨h3, h4, h5⟩ := Res.bind_eq_ok h2
      clear h2
      have b2 := bndA_spec (P := P) (w := w) (code := .slice3B) (y' := m1) hp hhv h4 (Nat.le_refl _)
      obtain ⟨n, h6, h7, h8⟩ := low (y := h3) (code := .slice3C) (k := fun l => (l, h3, true, m1)) hlo h5
      clear h5
      simp only [Prod.mk.injEq] at h6
      obtain ⟨rfl, rfl, rfl, rfl⟩ := h6
      refine ⟨m, ?_, h7, b2.2, Nat.le_refl _, by omega, fun _ => rfl⟩
      simp only [Instr.sliceBounds, Sem.run_bind, b1.1, Result.andThen_ok, b2.1, Option.isSome_some, if_true, Sem.run_pure]
      cases lo' with
      | none => simp only [Sem.run_pure, Result.ok.injEq] at h8; simp [h8.1]
      | some lv => simp only at h8; simp [h8]
  | none =>
    simp only [OptR] at hmx
    subst hmx
    cases hi with
    | some ha =>
      obtain ⟨hv, rfl, hhv⟩ := hhi
      obtain ⟨h3, h4, h5⟩ := Res.bind_eq_ok hr
      clear hr
      have b2 := bndA_spec (P := P) (w := w) (code := if isS then .sliceAcap else .sliceAlen) (y' := c) hp hhv h4 hc
      obtain ⟨n, h6, h7, h8⟩ := low (y := h3) (code := .sliceB) (k := fun l => (l, h3, ex, cap)) hlo h5
      clear h5
      simp only [Prod.mk.injEq] at h6
      obtain ⟨rfl, rfl, rfl, rfl⟩ := h6
      refine ⟨c, ?_, h7, b2.2, hc, Nat.le_refl _, hex⟩
      simp only [Instr.sliceBounds, Sem.run_bind, Sem.run_pure, Result.andThen_ok, b2.1, Option.isSome_none, Bool.false_eq_true, if_false]
      cases lo' with
      | none => simp only [Sem.run_pure, Result.ok.injEq] at h8; simp [h8.1]
      | some lv => simp only at h8; simp [h8]
    | none =>
      simp only [OptR] at hhi
      subst hhi
      obtain ⟨n, h6, h7, h8⟩ := low (y := len) (code := .sliceB) (k := fun l => (l, len, ex, cap)) hlo hr
      clear hr
      simp only [Prod.mk.injEq] at h6
      obtain ⟨rfl, rfl, rfl, rfl⟩ := h6
      refine ⟨c, ?_, h7, hl, hc, Nat.le_refl _, hex⟩
      simp only [Instr.sliceBounds, Sem.run_bind, Sem.run_pure, Result.andThen_ok, Option.isSome_none, Bool.false_eq_true, if_false]
      cases lo' with
      | none => simp only [Sem.run_pure, Result.ok.injEq] at h8; simp [h8.1]
      | some lv => simp only at h8; simp [h8]

theorem bndA_le {a : AV} {y n : Nat} (h : bndA pc a y = .ok n) : n ≤ y := by
  unfold bndA at h
  obtain ⟨⟨k, e⟩, h1, h2⟩ := Res.bind_eq_ok h
  have below_lt : ∀ {e : SE} {m n : Nat}, below pc e n = .ok m → m < n := by
    intro e m n h
    have wl : ∀ {n j m : Nat}, which pc e j n = .ok m → m < j + n := by
      intro n
      induction n with
      | zero => intro j m h; cases h
      | succ n ih =>
        intro j m h
        unfold which at h
        split at h
        · cases h; omega
        · have := ih h; simp only [Nat.succ_eq_add_one] at this; omega
        · cases h
    unfold below at h
    split at h
    · rcases cond_eq h with ⟨h1, h⟩ | ⟨_, h⟩
      · cases h; simpa using h1
      · cases h
    · cases h
    · (repeat' split at h) <;> first | (cases h; done) | skip
      have := wl h
      omega
  have := below_lt h2
  omega

/-- Over a length of 0 and a capacity of which nothing is known all is 0. -/
theorem boundsA_le {ex ex' : Bool} {lo hi mx : Option AV} {l h m : Nat} (hr : boundsA pc 0 ex 0 lo hi mx = .ok (l, h, ex', m)) : h = 0 := by
  unfold boundsA at hr
  cases mx with
  | some ma =>
    obtain ⟨m1, h1, h2⟩ := Res.bind_eq_ok hr
    have := bndA_le h1
    cases hi with
    | none => cases h2
    | some ha =>
      obtain ⟨h3, h4, h5⟩ := Res.bind_eq_ok h2
      have := bndA_le h4
      cases lo with
      | none => cases h5; omega
      | some la => obtain ⟨l1, _, h6⟩ := Res.bind_eq_ok h5; cases h6; omega
  | none =>
    cases hi with
    | some ha =>
      obtain ⟨h3, h4, h5⟩ := Res.bind_eq_ok hr
      have := bndA_le h4
      cases lo with
      | none => cases h5; omega
      | some la => obtain ⟨l1, _, h6⟩ := Res.bind_eq_ok h5; cases h6; omega
    | none =>
      cases lo with
      | none => cases hr; rfl
      | some la => obtain ⟨l1, _, h6⟩ := Res.bind_eq_ok hr; cases h6; rfl

theorem cutA_spec {id off es l h m m' : Nat} {ex : Bool} {p : Loc} (hp : μ id = some p) (hlh : l ≤ h) (hhm : h ≤ m) (hm : m ≤ m') (hex : ex = true → m' = m) (hin : p.2.1 + off + m' * es ≤ p.2.2) :
    VR ρ μ (cutA id off es (l, h, ex, m)) (.slice (if m' = l then some ⟨p.1, p.2.1 + off, none⟩ else some ((⟨p.1, p.2.1 + off, none⟩ : Addr).add (l * es))) (h - l) (m' - l)) := by
  unfold cutA
  simp only []
  cases h0 : Nat.beq l 0 with
  | true =>
    have := beq_eq h0
    subst this
    rw [cond_true, VR]
    refine ⟨p, m', hp, ?_, hex, hm, hhm, hin⟩
    simp [addr_add]
  | false =>
    have hl0 : l ≠ 0 := fun e => by subst e; simp at h0
    rw [cond_false]
    cases h1 : Nat.blt l m with
    | true =>
      have hlm : l < m := by simpa using h1
      rw [cond_true, VR]
      refine ⟨p, m' - l, hp, ?_, fun e => by rw [hex e], by omega, by omega, ?_⟩
      · rw [if_neg (by omega), addr_add, Nat.add_assoc]
      · have : l * es + (m' - l) * es = m' * es := by rw [← Nat.add_mul]; congr 1; omega
        omega
    | false =>
      have hlm : ¬ l < m := by have : ¬ (l.blt m = true) := by simp [h1]
                               exact fun h => this (by simpa using h)
      rw [cond_false]
      cases ex with
      | true =>
        have e := hex rfl
        subst e
        rw [cond_true, VR]
        refine ⟨p, 0, hp, ?_, fun _ => rfl, Nat.le_refl _, by omega, by have : 0 * es = 0 := Nat.zero_mul _; omega⟩
        rw [if_pos (by omega)]
        congr 1; omega
      | false =>
        rw [cond_false, VR]
        by_cases e : m' = l
        · rw [if_pos e]; exact ⟨_, _, by congr 1; omega⟩
        · rw [if_neg e]; exact ⟨_, _, by congr 1; omega⟩

theorem SR_sub {n : Nat} {bs : List SE} {s : ByteArray} (hs : SR ρ n bs s) {l h : Nat} (hlh : l ≤ h) (hh : h ≤ n) : SR ρ (h - l) ((bs.drop l).take (h - l)) (s.extract l h) := by
  constructor
  · simp [hs.1]; omega
  · have : (s.extract l h).data = s.data.extract l h := by
      have hz : h ≤ s.size := by rw [SR_size hs]; exact hh
      simp [ByteArray.data_extract]
    rw [this, Array.toList_extract, List.extract_eq_take_drop, hs.2, List.map_take, List.map_drop]

theorem sliceA_spec {t : Nat} {a r : AV} {v : Value} {lo hi mx : Option AV} {lo' hi' mx' : Option Value} (hp : pc.holds ρ) (hv : VR ρ μ a v) (hlo : OptR ρ μ lo lo') (hhi : OptR ρ μ hi hi') (hmx : OptR ρ μ mx mx')
    (h : sliceA P pc t a lo hi mx = .ok r) : ∃ y, (Instr.sliceAt t v lo' hi' mx').run P w = .ok y w ∧ VR ρ μ r y := by
  unfold sliceA at h
  obtain ⟨ti, h1, h0⟩ := Res.bind_eq_ok h
  clear h
  split at h0
  · rename_i n bs hd
    split at h0
    · cases h0
    · simp only [OptR] at hmx
      subst hmx
      obtain ⟨⟨l, h, ex, m⟩, h2, h3⟩ := Res.bind_eq_ok h0
      cases h3
      rw [VR] at hv
      obtain ⟨s, rfl, hs⟩ := hv
      obtain ⟨m', h4, h5, h6, h7, h8, _⟩ := boundsA_spec (P := P) (w := w) (isS := false) (c := n) hp hlo hhi (show OptR ρ μ none none from rfl) (fun _ => rfl) (Nat.le_refl _) (Nat.le_refl _) h2
      refine ⟨.string (s.extract l h), ?_, by rw [VR]; exact ⟨_, rfl, SR_sub hs h5 (by omega)⟩⟩
      have hz := SR_size hs
      simp [Instr.sliceAt, Instr.slice, run_und (td_str (tdR_spec h1) hd), hz, h4]
  · rename_i e id off len ex cap es hd
    obtain ⟨te, h2, h3⟩ := Res.bind_eq_ok h0
    rcases cond_eq h3 with ⟨h4, h5⟩ | ⟨_, h5⟩
    · have hes := beq_eq h4
      obtain ⟨⟨l, h, ex', m⟩, h6, h7⟩ := Res.bind_eq_ok h5
      cases h7
      rw [VR] at hv
      obtain ⟨p, c, hp', rfl, g1, g2, g3, g4⟩ := hv
      obtain ⟨m', b1, b2, b3, b4, b5, b6⟩ := boundsA_spec (P := P) (w := w) (isS := true) (c := c) hp hlo hhi hmx g1 g2 g3 h6
      refine ⟨_, ?_, cutA_spec (ρ := ρ) (es := es) (off := off) hp' b2 b3 b4 b6 (Nat.le_trans (Nat.add_le_add_left (Nat.mul_le_mul_right _ b5) _) g4)⟩
      simp only [Instr.sliceAt, Sem.run_bind, run_und (td_slc (tdR_spec h1) hd), Result.andThen_ok, Instr.slice, b1, run_size (tdR_spec h2), Sem.run_pure, hes]
      split <;> rfl
    · cases h5
  · rename_i e hd
    rw [VR] at hv
    subst hv
    obtain ⟨te, h2, h3⟩ := Res.bind_eq_ok h0
    obtain ⟨⟨l, h, ex', m⟩, h6, h7⟩ := Res.bind_eq_ok h3
    cases h7
    obtain ⟨m', b1, b2, b3, b4, b5, b6⟩ := boundsA_spec (P := P) (w := w) (isS := true) (c := 0) hp hlo hhi hmx (fun _ => rfl) (Nat.le_refl _) (Nat.le_refl _) h6
    refine ⟨.slice none 0 0, ?_, by rw [VR]⟩
    have e1 : l = 0 := by omega
    have e2 : h = 0 := by omega
    have e3 : m' = 0 := by omega
    subst e1; subst e2; subst e3
    simp [Instr.sliceAt, run_und (td_slc (tdR_spec h1) hd), Instr.slice, b1, run_size (tdR_spec h2)]
  · rename_i e hd
    rw [VR] at hv
    obtain ⟨a, c, rfl⟩ := hv
    obtain ⟨te, h2, h3⟩ := Res.bind_eq_ok h0
    obtain ⟨⟨l, h, ex', m⟩, h6, h7⟩ := Res.bind_eq_ok h3
    cases h7
    obtain ⟨m', b1, b2, b3, b4, b5, b6⟩ := boundsA_spec (P := P) (w := w) (isS := true) (c := c) (len := 0) hp hlo hhi hmx (fun e => by cases e) (Nat.zero_le _) (Nat.le_refl _) h6
    have e2 : h - l = 0 := by
      have := boundsA_le h6
      omega
    refine ⟨_, by simp only [Instr.sliceAt, Sem.run_bind, run_und (td_slc (tdR_spec h1) hd), Result.andThen_ok, Instr.slice, b1, run_size (tdR_spec h2), Sem.run_pure]; rfl, ?_⟩
    rw [VR, e2]
    by_cases e : m' = l
    · rw [if_pos e]; exact ⟨_, _, rfl⟩
    · rw [if_neg e]; exact ⟨_, _, rfl⟩
  · rename_i e id off n len es hd
    obtain ⟨te, h2, h3⟩ := Res.bind_eq_ok h0
    rcases cond_eq h3 with ⟨h4, h5⟩ | ⟨_, h5⟩
    · have hes := beq_eq h4
      split at h5
      · rename_i hv0
        obtain ⟨⟨l, h, ex', m⟩, h6, h7⟩ := Res.bind_eq_ok h5
        cases h7
        rw [VR] at hv
        obtain ⟨p, c, k, rfl, hp', _, g2, g3, g4⟩ := hv
        obtain ⟨m', b1, b2, b3, b4, b5, b6⟩ := boundsA_spec (P := P) (w := w) (isS := true) (c := c) hp hlo hhi hmx (fun e => by cases e) (Nat.le_trans g2 g3) (Nat.le_refl _) h6
        obtain ⟨hx, rfl, hxv⟩ := hhi
        have b1' : (Instr.sliceBounds true k c lo' (some hx) mx').run P w = .ok (l, h, m') w := by
          unfold Instr.sliceBounds at b1 ⊢
          cases mx' <;> exact b1
        refine ⟨_, ?_, cutA_spec (ρ := ρ) (es := es) (off := off) hp' b2 b3 b4 b6 (Nat.le_trans (Nat.add_le_add_left (Nat.mul_le_mul_right _ b5) _) g4)⟩
        simp only [Instr.sliceAt, Sem.run_bind, run_und (td_slc (tdR_spec h1) hd), Result.andThen_ok, Instr.slice, b1', run_size (tdR_spec h2), Sem.run_pure, hes]
        split <;> rfl
      · cases h5
    · cases h5
  · cases h0

end
end Go.Ev
