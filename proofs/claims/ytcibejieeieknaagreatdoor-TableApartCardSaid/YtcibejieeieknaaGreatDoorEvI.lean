/- The evaluator's slices, lengths, literals are the model's; no theorem of the program yet; no conditions. -/
import Derived.Test.YtcibejieeieknaaGreatDoorEvD
import Derived.Great.FillDense
import Derived.RangeFuncIn
import Derived.LoopNIn
import Derived.DefersIn
import Derived.OrdersIn
import Derived.RowKit3
import Derived.RangeFuncRecord
import Derived.Laws.Runes
set_option linter.unusedSimpArgs false
set_option linter.unusedVariables false
namespace Go.Ev
section
variable {ρ : Env} {μ : Mu} {P : Program} {pc : PC} {w : World}

/-! ### Bounds -/
theorem bndA_spec {a : AV} {v : Value} {y n y' : Nat} {code : BoundsCode} (hp : pc.holds ρ) (hv : VR ρ μ a v) (h : bndA pc a y = .ok n) (hy : y ≤ y') :
    (Instr.sliceBound v y' code).run P w = .ok n w ∧ n ≤ y := by
  unfold bndA at h
  obtain ⟨⟨k, e⟩, h1, h2⟩ := Res.bind_eq_ok h
  obtain ⟨h3, h4⟩ := below_spec hp h2
  have := asI_spec hp hv h1
  subst this
  refine ⟨?_, by omega⟩
  have h5 : n ≤ y' := by omega
  simp [Instr.sliceBound, asIntOf, h3, h5]

def OptR (ρ : Env) (μ : Mu) : Option AV → Option Value → Prop
  | none, v => v = none
  | some a, v => ∃ u, v = some u ∧ VR ρ μ a u

theorem optA_spec {ea : Operand → Res AV} {rv : Operand → Value} {x : Option Operand} {a : Option AV} (hx : ∀ y ∈ x.toArray, ∀ b, ea y = .ok b → VR ρ μ b (rv y)) (h : optA ea x = .ok a) : OptR ρ μ a (x.map rv) := by
  cases x with
  | none => simp [optA] at h; subst h; rfl
  | some x =>
    simp only [optA] at h
    obtain ⟨b, h1, h2⟩ := Res.bind_eq_ok h
    cases h2
    exact ⟨rv x, rfl, hx x (by simp) b h1⟩

theorem boundsA_spec {len cap c l h m : Nat} {ex ex' isS : Bool} {lo hi mx : Option AV} {lo' hi' mx' : Option Value} (hp : pc.holds ρ) (hlo : OptR ρ μ lo lo') (hhi : OptR ρ μ hi hi') (hmx : OptR ρ μ mx mx')
    (hex : ex = true → c = cap) (hc : cap ≤ c) (hl : len ≤ cap) (hr : boundsA pc len ex cap lo hi mx = .ok (l, h, ex', m)) :
    ∃ m', (Instr.sliceBounds isS len c lo' hi' mx').run P w = .ok (l, h, m') w ∧ l ≤ h ∧ h ≤ m ∧ m ≤ m' ∧ m' ≤ c ∧ (ex' = true → m' = m) := by
  have low : ∀ {y : Nat} {lo : Option AV} {lo' : Option Value} {code : BoundsCode} {k : Nat → Nat × Nat × Bool × Nat} {r : Nat × Nat × Bool × Nat}, OptR ρ μ lo lo' →
      (match lo with | none => .ok (k 0) | some l => (bndA pc l y).bind fun l => .ok (k l)) = Res.ok r → ∃ n, r = k n ∧ n ≤ y ∧ (match lo' with | some v => Instr.sliceBound v y code | none => pure 0 : Sem Nat).run P w = .ok n w := by
    intro y lo lo' code k r hlo h
    cases lo with
    | none => simp only [OptR] at hlo; subst hlo; cases h; exact ⟨0, rfl, Nat.zero_le _, rfl⟩
    | some a =>
      obtain ⟨u, rfl, hu⟩ := hlo
      obtain ⟨n, h1, h2⟩ := Res.bind_eq_ok h
      cases h2
      have := bndA_spec (P := P) (w := w) (code := code) hp hu h1 (Nat.le_refl _)
      exact ⟨n, rfl, this.2, this.1⟩
  unfold boundsA at hr
  cases mx with
  | some ma =>
    obtain ⟨mv, rfl, hmv⟩ := hmx
    obtain ⟨m1, h1, h2⟩ := Res.bind_eq_ok hr
    clear hr
    have b1 := bndA_spec (P := P) (w := w) (code := if isS then .slice3Acap else .slice3Alen) (y' := c) hp hmv h1 hc
    cases hi with
    | none => cases h2
    | some ha =>
      obtain ⟨hv, rfl, hhv⟩ := hhi
      obtain ⟨h3, h4, h5⟩ := Res.bind_eq_ok h2
      clear h2
      have b2 := bndA_spec (P := P) (w := w) (code := .slice3B) (y' := m1) hp hhv h4 (Nat.le_refl _)
      obtain ⟨n, h6, h7, h8⟩ := low (y := h3) (code := .slice3C) (k := fun l => (l, h3, true, m1)) hlo h5
      clear h5
      simp only [Prod.mk.injEq] at h6
      obtain ⟨rfl, rfl, rfl, rfl⟩ := h6
      refine ⟨m, ?_, h7, b2.2, Nat.le_refl _, by omega, fun _ => rfl⟩
      simp only [Instr.sliceBounds, Sem.run_bind, b1.1, Result.andThen_ok, b2.1, Option.isSome_some, if_true, Sem.run_pure]
      cases lo' with
      | none => simp only [Sem.run_pure, Result.ok.injEq] at h8; simp [h8.1]
      | some lv => simp only at h8; simp [h8]
  | none =>
    simp only [OptR] at hmx
    subst hmx
    cases hi with
    | some ha =>
      obtain ⟨hv, rfl, hhv⟩ := hhi
      obtain ⟨h3, h4, h5⟩ := Res.bind_eq_ok hr
      clear hr
      have b2 := bndA_spec (P := P) (w := w) (code := if isS then .sliceAcap else .sliceAlen) (y' := c) hp hhv h4 hc
      obtain ⟨n, h6, h7, h8⟩ := low (y := h3) (code := .sliceB) (k := fun l => (l, h3, ex, cap)) hlo h5
      clear h5
      simp only [Prod.mk.injEq] at h6
      obtain ⟨rfl, rfl, rfl, rfl⟩ := h6
      refine ⟨c, ?_, h7, b2.2, hc, Nat.le_refl _, hex⟩
      simp only [Instr.sliceBounds, Sem.run_bind, Sem.run_pure, Result.andThen_ok, b2.1, Option.isSome_none, Bool.false_eq_true, if_false]
      cases lo' with
      | none => simp only [Sem.run_pure, Result.ok.injEq] at h8; simp [h8.1]
      | some lv => simp only at h8; simp [h8]
    | none =>
      simp only [OptR] at hhi
      subst hhi
      obtain ⟨n, h6, h7, h8⟩ := low (y := len) (code := .sliceB) (k := fun l => (l, len, ex, cap)) hlo hr
      clear hr
      simp only [Prod.mk.injEq] at h6
      obtain ⟨rfl, rfl, rfl, rfl⟩ := h6
      refine ⟨c, ?_, h7, hl, hc, Nat.le_refl _, hex⟩
      simp only [Instr.sliceBounds, Sem.run_bind, Sem.run_pure, Result.andThen_ok, Option.isSome_none, Bool.false_eq_true, if_false]
      cases lo' with
      | none => simp only [Sem.run_pure, Result.ok.injEq] at h8; simp [h8.1]
      | some lv => simp only at h8; simp [h8]

theorem bndA_le {a : AV} {y n : Nat} (h : bndA pc a y = .ok n) : n ≤ y := by
  unfold bndA at h
  obtain ⟨⟨k, e⟩, h1, h2⟩ := Res.bind_eq_ok h
  have below_lt : ∀ {e : SE} {m n : Nat}, below pc e n = .ok m → m < n := by
    intro e m n h
    have wl : ∀ {n j m : Nat}, which pc e j n = .ok m → m < j + n := by
      intro n
      induction n with
      | zero => intro j m h; cases h
      | succ n ih =>
        intro j m h
        unfold which at h
        split at h
        · cases h; omega
        · have := ih h; simp only [Nat.succ_eq_add_one] at this; omega
        · cases h
    unfold below at h
    split at h
    · rcases cond_eq h with ⟨h1, h⟩ | ⟨_, h⟩
      · cases h; simpa using h1
      · cases h
    · cases h
    · (repeat' split at h) <;> first | (cases h; done) | skip
      have := wl h
      omega
  have := below_lt h2
  omega

/-- Over a length of 0 and a capacity of which nothing is known all is 0. -/
theorem boundsA_le {ex ex' : Bool} {lo hi mx : Option AV} {l h m : Nat} (hr : boundsA pc 0 ex 0 lo hi mx = .ok (l, h, ex', m)) : h = 0 := by
  unfold boundsA at hr
  cases mx with
  | some ma =>
    obtain ⟨m1, h1, h2⟩ := Res.bind_eq_ok hr
    have := bndA_le h1
    cases hi with
    | none => cases h2
    | some ha =>
      obtain ⟨h3, h4, h5⟩ := Res.bind_eq_ok h2
      have := bndA_le h4
      cases lo with
      | none => cases h5; omega
      | some la => obtain ⟨l1, _, h6⟩ := Res.bind_eq_ok h5; cases h6; omega
  | none =>
    cases hi with
    | some ha =>
      obtain ⟨h3, h4, h5⟩ := Res.bind_eq_ok hr
      have := bndA_le h4
      cases lo with
      | none => cases h5; omega
      | some la => obtain ⟨l1, _, h6⟩ := Res.bind_eq_ok h5; cases h6; omega
    | none =>
      cases lo with
      | none => cases hr; rfl
      | some la => obtain ⟨l1, _, h6⟩ := Res.bind_eq_ok hr; cases h6; rfl

theorem cutA_spec {id off es l h m m' : Nat} {ex : Bool} {p : Loc} (hp : μ id = some p) (hlh : l ≤ h) (hhm : h ≤ m) (hm : m ≤ m') (hex : ex = true → m' = m) (hin : p.2.1 + off + m' * es ≤ p.2.2) :
    VR ρ μ (cutA id off es (l, h, ex, m)) (.slice (if m' = l then some ⟨p.1, p.2.1 + off, none⟩ else some ((⟨p.1, p.2.1 + off, none⟩ : Addr).add (l * es))) (h - l) (m' - l)) := by
  unfold cutA
  simp only []
  cases h0 : Nat.beq l 0 with
  | true =>
    have := beq_eq h0
    subst this
    rw [cond_true, VR]
    refine ⟨p, m', hp, ?_, hex, hm, hhm, hin⟩
    simp [addr_add]
  | false =>
    have hl0 : l ≠ 0 := fun e => by subst e; simp at h0
    rw [cond_false]
    cases h1 : Nat.blt l m with
    | true =>
      have hlm : l < m := by simpa using h1
      rw [cond_true, VR]
      refine ⟨p, m' - l, hp, ?_, fun e => by rw [hex e], by omega, by omega, ?_⟩
      · rw [if_neg (by omega), addr_add, Nat.add_assoc]
      · have : l * es + (m' - l) * es = m' * es := by rw [← Nat.add_mul]; congr 1; omega
        omega
    | false =>
      have hlm : ¬ l < m := by have : ¬ (l.blt m = true) := by simp [h1]
                               exact fun h => this (by simpa using h)
      rw [cond_false]
      cases ex with
      | true =>
        have e := hex rfl
        subst e
        rw [cond_true, VR]
        refine ⟨p, 0, hp, ?_, fun _ => rfl, Nat.le_refl _, by omega, by have : 0 * es = 0 := Nat.zero_mul _; omega⟩
        rw [if_pos (by omega)]
        congr 1; omega
      | false =>
        rw [cond_false, VR]
        by_cases e : m' = l
        · rw [if_pos e]; exact ⟨_, _, by congr 1; omega⟩
        · rw [if_neg e]; exact ⟨_, _, by congr 1; omega⟩

theorem SR_sub {n : Nat} {bs : List SE} {s : ByteArray} (hs : SR ρ n bs s) {l h : Nat} (hlh : l ≤ h) (hh : h ≤ n) : SR ρ (h - l) ((bs.drop l).take (h - l)) (s.extract l h) := by
  constructor
  · simp [hs.1]; omega
  · have : (s.extract l h).data = s.data.extract l h := by
      have hz : h ≤ s.size := by rw [SR_size hs]; exact hh
      simp [ByteArray.data_extract]
    rw [this, Array.toList_extract, List.extract_eq_take_drop, hs.2, List.map_take, List.map_drop]

theorem sliceA_spec {t : Nat} {a r : AV} {v : Value} {lo hi mx : Option AV} {lo' hi' mx' : Option Value} (hp : pc.holds ρ) (hv : VR ρ μ a v) (hlo : OptR ρ μ lo lo') (hhi : OptR ρ μ hi hi') (hmx : OptR ρ μ mx mx')
    (h : sliceA P pc t a lo hi mx = .ok r) : ∃ y, (Instr.sliceAt t v lo' hi' mx').run P w = .ok y w ∧ VR ρ μ r y := by
  unfold sliceA at h
  obtain ⟨ti, h1, h0⟩ := Res.bind_eq_ok h
  clear h
  split at h0
  · rename_i n bs hd
    split at h0
    · cases h0
    · simp only [OptR] at hmx
      subst hmx
      obtain ⟨⟨l, h, ex, m⟩, h2, h3⟩ := Res.bind_eq_ok h0
      cases h3
      rw [VR] at hv
      obtain ⟨s, rfl, hs⟩ := hv
      obtain ⟨m', h4, h5, h6, h7, h8, _⟩ := boundsA_spec (P := P) (w := w) (isS := false) (c := n) hp hlo hhi (show OptR ρ μ none none from rfl) (fun _ => rfl) (Nat.le_refl _) (Nat.le_refl _) h2
      refine ⟨.string (s.extract l h), ?_, by rw [VR]; exact ⟨_, rfl, SR_sub hs h5 (by omega)⟩⟩
      have hz := SR_size hs
      simp [Instr.sliceAt, Instr.slice, run_und (td_str (tdR_spec h1) hd), hz, h4]
  · rename_i e id off len ex cap es hd
    obtain ⟨te, h2, h3⟩ := Res.bind_eq_ok h0
    rcases cond_eq h3 with ⟨h4, h5⟩ | ⟨_, h5⟩
    · have hes := beq_eq h4
      obtain ⟨⟨l, h, ex', m⟩, h6, h7⟩ := Res.bind_eq_ok h5
      cases h7
      rw [VR] at hv
      obtain ⟨p, c, hp', rfl, g1, g2, g3, g4⟩ := hv
      obtain ⟨m', b1, b2, b3, b4, b5, b6⟩ := boundsA_spec (P := P) (w := w) (isS := true) (c := c) hp hlo hhi hmx g1 g2 g3 h6
      refine ⟨_, ?_, cutA_spec (ρ := ρ) (es := es) (off := off) hp' b2 b3 b4 b6 (Nat.le_trans (Nat.add_le_add_left (Nat.mul_le_mul_right _ b5) _) g4)⟩
      simp only [Instr.sliceAt, Sem.run_bind, run_und (td_slc (tdR_spec h1) hd), Result.andThen_ok, Instr.slice, b1, run_size (tdR_spec h2), Sem.run_pure, hes]
      split <;> rfl
    · cases h5
  · rename_i e hd
    rw [VR] at hv
    subst hv
    obtain ⟨te, h2, h3⟩ := Res.bind_eq_ok h0
    obtain ⟨⟨l, h, ex', m⟩, h6, h7⟩ := Res.bind_eq_ok h3
    cases h7
    obtain ⟨m', b1, b2, b3, b4, b5, b6⟩ := boundsA_spec (P := P) (w := w) (isS := true) (c := 0) hp hlo hhi hmx (fun _ => rfl) (Nat.le_refl _) (Nat.le_refl _) h6
    refine ⟨.slice none 0 0, ?_, by rw [VR]⟩
    have e1 : l = 0 := by omega
    have e2 : h = 0 := by omega
    have e3 : m' = 0 := by omega
    subst e1; subst e2; subst e3
    simp [Instr.sliceAt, run_und (td_slc (tdR_spec h1) hd), Instr.slice, b1, run_size (tdR_spec h2)]
  · rename_i e hd
    rw [VR] at hv
    obtain ⟨a, c, rfl⟩ := hv
    obtain ⟨te, h2, h3⟩ := Res.bind_eq_ok h0
    obtain ⟨⟨l, h, ex', m⟩, h6, h7⟩ := Res.bind_eq_ok h3
    cases h7
    obtain ⟨m', b1, b2, b3, b4, b5, b6⟩ := boundsA_spec (P := P) (w := w) (isS := true) (c := c) (len := 0) hp hlo hhi hmx (fun e => by cases e) (Nat.zero_le _) (Nat.le_refl _) h6
    have e2 : h - l = 0 := by
      have := boundsA_le h6
      omega
    refine ⟨_, by simp only [Instr.sliceAt, Sem.run_bind, run_und (td_slc (tdR_spec h1) hd), Result.andThen_ok, Instr.slice, b1, run_size (tdR_spec h2), Sem.run_pure]; rfl, ?_⟩
    rw [VR, e2]
    by_cases e : m' = l
    · rw [if_pos e]; exact ⟨_, _, rfl⟩
    · rw [if_neg e]; exact ⟨_, _, rfl⟩
  · rename_i e id off n len es hd
    obtain ⟨te, h2, h3⟩ := Res.bind_eq_ok h0
    rcases cond_eq h3 with ⟨h4, h5⟩ | ⟨_, h5⟩
    · have hes := beq_eq h4
      split at h5
      · rename_i hv0
        obtain ⟨⟨l, h, ex', m⟩, h6, h7⟩ := Res.bind_eq_ok h5
        cases h7
        rw [VR] at hv
        obtain ⟨p, c, k, rfl, hp', _, g2, g3, g4⟩ := hv
        obtain ⟨m', b1, b2, b3, b4, b5, b6⟩ := boundsA_spec (P := P) (w := w) (isS := true) (c := c) hp hlo hhi hmx (fun e => by cases e) (Nat.le_trans g2 g3) (Nat.le_refl _) h6
        obtain ⟨hx, rfl, hxv⟩ := hhi
        have b1' : (Instr.sliceBounds true k c lo' (some hx) mx').run P w = .ok (l, h, m') w := by
          unfold Instr.sliceBounds at b1 ⊢
          cases mx' <;> exact b1
        refine ⟨_, ?_, cutA_spec (ρ := ρ) (es := es) (off := off) hp' b2 b3 b4 b6 (Nat.le_trans (Nat.add_le_add_left (Nat.mul_le_mul_right _ b5) _) g4)⟩
        simp only [Instr.sliceAt, Sem.run_bind, run_und (td_slc (tdR_spec h1) hd), Result.andThen_ok, Instr.slice, b1', run_size (tdR_spec h2), Sem.run_pure, hes]
        split <;> rfl
      · cases h5
    · cases h5
  · cases h0

end
end Go.Ev

/- The evaluator's other plain operations are the model's; no theorem of the program yet; no conditions. -/
namespace Go.Ev
section
variable {ρ : Env} {μ : Mu} {P : Program} {pc : PC} {w : World}

/-! ### Lengths -/
theorem lenA_spec {t : Nat} {a r : AV} {v : Value} {ts : Array TypeId} {vs : Array Value} {ty : TypeId} (ht : ts[0]? = some t) (hvs : vs[0]? = some v) (hv : VR ρ μ a v) (h : lenA P t a = .ok r) :
    ∃ y, (Builtin.len_ ts ty vs).run P w = .ok y w ∧ VR ρ μ r y := by
  unfold lenA at h
  obtain ⟨ti, h1, h0⟩ := Res.bind_eq_ok h
  clear h
  have hi := tdR_spec h1
  split at h0
  · rename_i n bs hd
    cases h0
    rw [VR] at hv
    obtain ⟨s, rfl, hs⟩ := hv
    refine ⟨goInt s.size, by simp [Builtin.len_, ht, hvs, run_und (td_str hi hd)], ?_⟩
    rw [VR, SR_size hs]; rfl
  · rename_i hd
    cases h0
    exact ⟨goInt _, by simp only [Builtin.len_, ht, hvs, run_und (td_arr hi hd), Sem.run_bind, Result.andThen_ok]; rfl, by rw [VR]; rfl⟩
  · rename_i e _ hd
    obtain ⟨ta, h2, h3⟩ := Res.bind_eq_ok h0
    clear h0
    split at h3
    · rename_i n _ hd2
      cases h3
      exact ⟨goInt n, by simp [Builtin.len_, ht, hvs, run_und (td_ptr hi hd), run_und (td_arr (tdR_spec h2) hd2)], by rw [VR]; rfl⟩
    · cases h3
  · rename_i hd
    cases h0
    rw [VR] at hv
    obtain ⟨p, c, _, rfl, _⟩ := hv
    exact ⟨goInt _, by simp only [Builtin.len_, ht, hvs, run_und (td_slc hi hd), Sem.run_bind, Result.andThen_ok]; rfl, by rw [VR]; rfl⟩
  · rename_i hd
    cases h0
    rw [VR] at hv
    subst hv
    exact ⟨goInt 0, by simp only [Builtin.len_, ht, hvs, run_und (td_slc hi hd), Sem.run_bind, Result.andThen_ok]; rfl, by rw [VR]; rfl⟩
  · rename_i hd
    cases h0
    rw [VR] at hv
    obtain ⟨_, c, rfl⟩ := hv
    exact ⟨goInt 0, by simp only [Builtin.len_, ht, hvs, run_und (td_slc hi hd), Sem.run_bind, Result.andThen_ok]; rfl, by rw [VR]; rfl⟩
  · rename_i hd
    cases h0
    rw [VR] at hv
    obtain ⟨p, c, m, rfl, _, hm, _⟩ := hv
    exact ⟨goInt m, by simp only [Builtin.len_, ht, hvs, run_und (td_slc hi hd), Sem.run_bind, Result.andThen_ok]; rfl, by rw [VR, ← hm]; rfl⟩
  · rename_i hd
    cases h0
    rw [VR] at hv
    subst hv
    exact ⟨goInt 0, by simp only [Builtin.len_, ht, hvs, run_und (td_map hi hd), Sem.run_bind, Result.andThen_ok]; rfl, by rw [VR]; rfl⟩
  · cases h0

theorem capA_spec {t : Nat} {a r : AV} {v : Value} {ts : Array TypeId} {vs : Array Value} {ty : TypeId} (ht : ts[0]? = some t) (hvs : vs[0]? = some v) (hv : VR ρ μ a v) (h : capA P t a = .ok r) :
    ∃ y, (Builtin.cap_ ts ty vs).run P w = .ok y w ∧ VR ρ μ r y := by
  unfold capA at h
  obtain ⟨ti, h1, h0⟩ := Res.bind_eq_ok h
  clear h
  have hi := tdR_spec h1
  split at h0
  · rename_i hd
    cases h0
    rw [VR] at hv
    obtain ⟨p, c, _, rfl, hc, _⟩ := hv
    have := hc rfl
    subst this
    exact ⟨goInt c, by simp only [Builtin.cap_, ht, hvs, run_und (td_slc hi hd), Sem.run_bind, Result.andThen_ok]; rfl, by rw [VR]; rfl⟩
  · rename_i hd
    cases h0
    rw [VR] at hv
    subst hv
    exact ⟨goInt 0, by simp only [Builtin.cap_, ht, hvs, run_und (td_slc hi hd), Sem.run_bind, Result.andThen_ok]; rfl, by rw [VR]; rfl⟩
  · cases h0

theorem maxA_spec {mx : Bool} (hp : pc.holds ρ) : ∀ {as : List AV} {a r : AV} {v : Value} {vs : List Value}, VR ρ μ a v → VRs ρ μ as vs → maxA mx pc a as = .ok r →
    ∃ y, (vs.foldlM (bif mx then Builtin.max2 else Builtin.min2) v).run P w = .ok y w ∧ VR ρ μ r y := by
  intro as
  induction as with
  | nil => intro a r v vs hv hvs h; rw [VRs_nil] at hvs; subst hvs; cases h; exact ⟨v, by simp, hv⟩
  | cons b as ih =>
    intro a r v vs hv hvs h
    rw [VRs_cons] at hvs
    obtain ⟨u, us, rfl, hu, hus⟩ := hvs
    unfold maxA at h
    split at h
    · cases ‹_ :: _ = []›
    · rename_i k x l y _ he
      cases he
      rcases cond_eq h with ⟨h1, h0⟩ | ⟨_, h0⟩
      · have := ikBeq_eq h1
        subst this
        obtain ⟨t, h2, h3⟩ := Res.bind_eq_ok h0
        have h4 := decR_spec hp h2
        rw [VR] at hv hu
        subst hv; subst hu
        rw [List.foldlM_cons]
        have key : ((bif mx then Builtin.max2 else Builtin.min2) (Value.int k (x.den ρ)) (Value.int k (y.den ρ))).run P w = .ok (.int k ((bif t then nrm pc y else nrm pc x).den ρ)) w := by
          cases mx <;> simp only [cond_true, cond_false, ltE_den, nrm_spec hp] at h4 ⊢
          · cases t
            · have := of_decide_eq_false h4
              simp [Builtin.min2, this, nrm_spec hp]
            · have := of_decide_eq_true h4
              simp [Builtin.min2, this, nrm_spec hp]
          · cases t
            · have := of_decide_eq_false h4
              simp [Builtin.max2, this, nrm_spec hp]
            · have := of_decide_eq_true h4
              simp [Builtin.max2, this, nrm_spec hp]
        obtain ⟨z, h5, h6⟩ := ih (show VR ρ μ (.int k (bif t then nrm pc y else nrm pc x)) (.int k ((bif t then nrm pc y else nrm pc x).den ρ)) by rw [VR]) hus h3
        exact ⟨z, by rw [Sem.run_bind, key, Result.andThen_ok]; exact h5, h6⟩
      · cases h0
    · cases h

theorem aLen_spec {b : Builtin} {ts : Array TypeId} {vs : List AV} {us : Array Value} {ty : TypeId} {cs : Array Bool} {r : AV} (hp : pc.holds ρ) (hv : VRs ρ μ vs us.toList) (h : aLen P pc b ts.toList vs = .ok r) :
    ∃ y, (builtin b ts ty cs us).run P w = .ok (.value y) w ∧ VR ρ μ r y := by
  have first : ∀ {v : AV} {l : List AV}, VRs ρ μ (v :: l) us.toList → ∃ u, us[0]? = some u ∧ VR ρ μ v u := by
    intro v l h
    rw [VRs_cons] at h
    obtain ⟨u, _, h1, h2, _⟩ := h
    exact ⟨u, by rw [← Array.getElem?_toList, h1]; rfl, h2⟩
  have head : ∀ {t : TypeId} {l : List TypeId}, ts.toList = t :: l → ts[0]? = some t := fun h => by rw [← Array.getElem?_toList, h]; rfl
  unfold aLen at h
  split at h
  · rename_i _ _ _ t _ he
    obtain ⟨u, h1, h2⟩ := first hv
    obtain ⟨y, h3, h4⟩ := lenA_spec (P := P) (w := w) (ty := ty) (head he) h1 h2 h
    exact ⟨y, by simp [builtin, h3], h4⟩
  · rename_i _ _ _ t _ he
    obtain ⟨u, h1, h2⟩ := first hv
    obtain ⟨y, h3, h4⟩ := capA_spec (P := P) (w := w) (ty := ty) (head he) h1 h2 h
    exact ⟨y, by simp [builtin, h3], h4⟩
  · rw [VRs_cons] at hv
    obtain ⟨u, us', h1, h2, h3⟩ := hv
    obtain ⟨y, h4, h5⟩ := maxA_spec (P := P) (w := w) hp h2 h3 h
    refine ⟨y, ?_, h5⟩
    simp only [cond_true] at h4
    simp [builtin, Builtin.max_, h1, h4]
  · rw [VRs_cons] at hv
    obtain ⟨u, us', h1, h2, h3⟩ := hv
    obtain ⟨y, h4, h5⟩ := maxA_spec (P := P) (w := w) hp h2 h3 h
    refine ⟨y, ?_, h5⟩
    simp only [cond_false] at h4
    simp [builtin, Builtin.min_, h1, h4]
  · cases h

/-! ### Literals -/
theorem layA_length : ∀ (cs : List AV) (o : Nat) (vs : List AV), (layA cs o vs).length = cs.length := by
  intro cs
  induction cs with
  | nil => intro o vs; rfl
  | cons c cs ih =>
    intro o vs
    cases o with
    | zero => cases vs with
      | nil => rfl
      | cons v vs => simp [layA, ih]
    | succ o => simp [layA, ih]

theorem layA_get : ∀ (cs : List AV) (o : Nat) (vs : List AV) (i : Nat), (layA cs o vs)[i]? = if o ≤ i ∧ i < o + vs.length ∧ i < cs.length then vs[i - o]? else cs[i]? := by
  intro cs
  induction cs with
  | nil => intro o vs i; simp [layA]
  | cons c cs ih =>
    intro o vs i
    cases o with
    | zero => cases vs with
      | nil => simp [layA]
      | cons v vs =>
        cases i with
        | zero => simp [layA]
        | succ i =>
          simp only [layA, List.getElem?_cons_succ, ih, List.length_cons, Nat.zero_le, true_and, Nat.zero_add, Nat.sub_zero]
          by_cases e : i < vs.length ∧ i < cs.length
          · rw [if_pos e, if_pos (by omega)]
          · rw [if_neg e, if_neg (by omega)]
    | succ o =>
      cases i with
      | zero => simp [layA]
      | succ i =>
        simp only [layA, List.getElem?_cons_succ, ih, List.length_cons]
        by_cases e : o ≤ i ∧ i < o + vs.length ∧ i < cs.length
        · rw [if_pos e, if_pos (by omega)]; congr 1; omega
        · rw [if_neg e, if_neg (by omega)]

theorem fillA_spec {pl pl' : Nat → Option (Nat × Nat)} (hpl : ∀ i x, pl i = some x → pl' i = some x) : ∀ {parts : List (Nat × AV)} {ps : List (Nat × Value)} {cells : List AV} {xs : Array Value} {r : List AV},
    PartsR ρ μ parts ps → VRs ρ μ cells xs.toList → fillA pl cells parts = some r → ∃ ys, Instr.fill pl' xs ps = some ys ∧ VRs ρ μ r ys.toList := by
  intro parts
  induction parts with
  | nil => intro ps cells xs r hps hx h; simp only [PartsR] at hps; subst hps; cases h; exact ⟨xs, rfl, hx⟩
  | cons p parts ih =>
    obtain ⟨i, a⟩ := p
    intro ps cells xs r hps hx h
    simp only [PartsR] at hps
    obtain ⟨v, ps, rfl, hv, hps⟩ := hps
    simp only [fillA] at h
    split at h
    · cases h
    · rename_i off size hi
      rcases cond_eq h with ⟨h1, h2⟩ | ⟨_, h2⟩
      · clear h
        simp only [Bool.and_eq_true] at h1
        have e1 := beq_eq h1.1
        have e2 : off + a.cells.length ≤ cells.length := by simpa using h1.2
        have hc := VR_cells hv
        have l1 := VRs_length hc
        have l2 := VRs_length hx
        obtain ⟨g1, g2⟩ := Great.foldl_set off v.cells.toList 0 xs
        have hz : VRs ρ μ (layA cells off a.cells) ((v.cells.toList.zipIdx 0).foldl (fun cs (x : Value × Nat) => cs.setIfInBounds (off + x.2) x.1) xs).toList := by
          refine VRs_of_get (by rw [layA_length, l2, Array.length_toList, Array.length_toList, g1]) ?_
          intro j b u hb hu
          rw [layA_get] at hb
          rw [Array.getElem?_toList, g2 j] at hu
          have q2 : cells.length = xs.size := by rw [l2]; exact Array.length_toList
          by_cases e : off ≤ j ∧ j < off + a.cells.length ∧ j < cells.length
          · rw [if_pos e] at hb
            rw [if_pos (by rw [← l1, ← q2]; omega)] at hu
            obtain ⟨u', h3, h4⟩ := VRs_get hc _ _ hb
            rw [Nat.add_zero, h3] at hu
            cases hu; exact h4
          · rw [if_neg e] at hb
            rw [if_neg (by rw [← l1, ← q2]; omega)] at hu
            obtain ⟨u', h3, h4⟩ := VRs_get hx _ _ hb
            rw [Array.getElem?_toList, hu] at h3
            cases h3; exact h4
        obtain ⟨ys, h3, h4⟩ := ih hps hz h2
        refine ⟨ys, ?_, h4⟩
        simp only [Instr.fill, hpl _ _ hi]
        rw [if_neg, ← Array.foldl_toList, Array.toList_zipIdx]
        · exact h3
        · have := l1
          have l3 : v.cells.toList.length = v.cells.size := Array.length_toList
          have l4 : xs.toList.length = xs.size := Array.length_toList
          simp
          omega
      · cases h2

theorem placesA_spec : ∀ {fs : List Field} {l : List (Nat × Nat)}, placesA P (fs.map fun f => (f.type, f.offset, decide (f.name ≠ "_"))) = some l →
    (fs.mapM fun f => (do pure (f.offset, ← sizeOf f.type) : Sem (Nat × Nat))).run P w = .ok l w := by
  intro fs
  induction fs with
  | nil => intro l h; cases h; simp
  | cons f fs ih =>
    intro l h
    simp only [List.map_cons, placesA] at h
    split at h
    · rename_i ti l' h1 h2
      cases h
      have h3 := ih h2
      simp only [bind_pure_comp] at h3
      simp [List.mapM_cons, run_size h1, h3]
    · cases h

theorem run_zero {t : Nat} {ti : TI} (h : tinfo P t = some ti) (w : World) : ∃ z, (zeroValue t).run P w = .ok z w ∧ ∀ ρ μ, VRs ρ μ ti.zero z.cells.toList := by
  obtain ⟨i, d, z, h1, _, h3, _, _, _, h7⟩ := tinfo_spec h
  refine ⟨z, ?_, h7⟩
  simp [zeroValue, typeInfo, h1, h3]

theorem buildA_spec {t : Nat} {parts : List (Nat × AV)} {ps : Array (Nat × Value)} {r : AV} (hps : PartsR ρ μ parts ps.toList) (h : buildA P t parts = .ok r) :
    ∃ y, (Instr.build t ps).run P w = .ok y w ∧ VR ρ μ r y := by
  unfold buildA at h
  obtain ⟨ti, h1, h0⟩ := Res.bind_eq_ok h
  clear h
  have hi := tdR_spec h1
  obtain ⟨z, hz, hzr⟩ := run_zero hi w
  split at h0
  · rename_i fs hd
    split at h0
    · cases h0
    · rename_i l hl
      split at h0
      · rename_i cs hcs
        cases h0
        obtain ⟨fields, hu, rfl⟩ := td_struct hi hd
        have hm := placesA_spec (w := w) hl
        have hm' : (fields.mapM fun f => (do pure (f.offset, ← sizeOf f.type) : Sem (Nat × Nat))).run P w = .ok l.toArray w := by
          rw [Array.mapM_eq_mapM_toList, Sem.run_map, hm]; rfl
        obtain ⟨ys, h5, h6⟩ := fillA_spec (pl' := fun i => l.toArray[i]?) (fun i x hx => by rw [nth_eq] at hx; simpa using hx) hps (hzr ρ μ) hcs
        refine ⟨.agg ys, ?_, by rw [VR]; exact ⟨_, rfl, h6⟩⟩
        simp only [Instr.build, Sem.run_bind, hz, Result.andThen_ok, run_und hu, hm', h5, Sem.run_pure]
      · cases h0
  · rename_i n e hd
    obtain ⟨te, h2, h3⟩ := Res.bind_eq_ok h0
    clear h0
    split at h3
    · rename_i cs hcs
      cases h3
      obtain ⟨ys, h5, h6⟩ := fillA_spec (pl' := fun i => some (i * te.size, te.size)) (fun i x hx => hx) hps (hzr ρ μ) hcs
      refine ⟨.agg ys, ?_, by rw [VR]; exact ⟨_, rfl, h6⟩⟩
      simp only [Instr.build, Sem.run_bind, hz, Result.andThen_ok, run_und (td_arr hi hd), run_size (tdR_spec h2), h5, Sem.run_pure]
    · cases h3
  · cases h0

/-! ### Others -/
theorem und_of {t : Nat} {ti : TI} (h : tinfo P t = some ti) : ∃ d, P.underlying t = some d := by
  obtain ⟨_, d, _, _, h2, _⟩ := tinfo_spec h
  exact ⟨d, h2⟩

theorem convA_spec {s d : Nat} {a r : AV} {v : Value} (hp : pc.holds ρ) (hv : VR ρ μ a v) (h : convA P pc s d a = .ok r) : ∃ y, (convert s d v).run P w = .ok y w ∧ VR ρ μ r y := by
  unfold convA at h
  obtain ⟨ts, h1, h0⟩ := Res.bind_eq_ok h
  clear h
  obtain ⟨td, h2, h3⟩ := Res.bind_eq_ok h0
  clear h0
  obtain ⟨du, hs⟩ := und_of (tdR_spec h1)
  split at h3
  · rename_i k _ e hd
    cases h3
    rw [VR] at hv
    subst hv
    refine ⟨.int k (k.wrap (e.den ρ)), ?_, by rw [VR, wrapE_den, nrm_spec hp]⟩
    simp [convert, run_und hs, run_und (td_int (tdR_spec h2) hd), Conv.intToInt]
  · rename_i n b hd
    cases h3
    have h0 := hv
    rw [VR] at hv
    obtain ⟨s', rfl, _⟩ := hv
    refine ⟨.string s', ?_, h0⟩
    simp [convert, run_und hs, run_und (td_str (tdR_spec h2) hd)]
  · cases h3

theorem aExtract_spec {i : Nat} {a r : AV} {v : Value} (hv : VR ρ μ a v) (h : aExtract i a = .ok r) : ∃ y, (Instr.extract v i).run P w = .ok y w ∧ VR ρ μ r y := by
  unfold aExtract at h
  split at h
  · have h1 := Res.ofO_eq_ok h
    rw [nth_eq] at h1
    rw [VR] at hv
    obtain ⟨ys, rfl, hs⟩ := hv
    obtain ⟨y, h2, h3⟩ := VRs_get hs _ _ h1
    rw [Array.getElem?_toList] at h2
    exact ⟨y, by simp [Instr.extract, h2], h3⟩
  · cases h

theorem aIface_spec {t : Nat} {a r : AV} {v : Value} (hv : VR ρ μ a v) (h : aIface P t a = .ok r) : ∃ y, (Instr.makeInterface t v).run P w = .ok y w ∧ VR ρ μ r y := by
  unfold aIface at h
  obtain ⟨ti, h1, h0⟩ := Res.bind_eq_ok h
  clear h
  obtain ⟨_, d, _, _, h2, _, h4, _⟩ := tinfo_spec (tdR_spec h1)
  rw [h4] at h0
  refine ⟨.iface t v, ?_, ?_⟩
  · cases d <;> simp only [tdOf] at h0 <;> first | (cases h0; done) | simp [Instr.makeInterface, run_und h2]
  · split at h0
    · cases h0
    · cases h0; rw [VR]; exact ⟨_, rfl, hv⟩

theorem aNilCheck_spec {rv : Operand → Value} {o : Oper} {x : Operand} (ho : o.op = .nilCheck x) {a r : AV} (hv : VR ρ μ a (rv x)) (h : aNilCheck a = .ok r) : ∃ y, (execOp rv o).run P w = .ok (.value y) w ∧ VR ρ μ r y := by
  have h0 := hv
  unfold aNilCheck at h
  split at h
  · cases h
    rw [VR] at hv
    obtain ⟨p, h1, h2⟩ := hv
    exact ⟨rv x, by simp [execOp, ho, h2], h0⟩
  · cases h
    rw [VR] at hv
    obtain ⟨f, a, b, h2, h1, _⟩ := hv
    simp only [fnR] at h1
    subst h1
    exact ⟨rv x, by simp [execOp, ho, h2], h0⟩
  · cases h
    rw [VR] at hv
    obtain ⟨f, a, b, h2, h1, _⟩ := hv
    simp only [fnR] at h1
    obtain ⟨p, _, h1⟩ := h1
    subst h1
    exact ⟨rv x, by simp [execOp, ho, h2], h0⟩
  · cases h
    rw [VR] at hv
    obtain ⟨y, h2, _⟩ := hv
    exact ⟨rv x, by simp [execOp, ho, h2], h0⟩
  · cases h

end
end Go.Ev

/- The evaluator's plain operations are the model's, all together; no theorem of the program yet; no conditions. -/
namespace Go.Ev
section
variable {ρ : Env} {μ : Mu} {P : Program} {pc : PC} {w : World}

theorem pure_call_spec (hp : pc.holds ρ) {o : Oper} {c : Call} (ho : o.op = .call c) {ea : Operand → Res AV} {rv : Operand → Value} {v : AV} (he : EaR ρ μ o.op ea rv) (h : clsCall P pc ea c = .pure (.ok v)) :
    ∃ y, (execOp rv o).run P w = .ok (.value y) w ∧ VR ρ μ v y := by
  rw [ho] at he
  unfold clsCall at h
  split at h
  · rename_i b hb
    have ha : ∀ {vs : List AV}, argsA ea c.args.toList = .ok vs → VRs ρ μ vs (c.args.map rv).toList := by
      intro vs h1
      rw [Array.toList_map]
      exact argsA_spec (fun x hx a h => he x (by simp only [Op.operands, Call.operands]; exact Array.mem_append.2 (.inr (by simpa using hx))) a h) h1
    unfold clsB at h
    split at h
    · injection h with h0
      obtain ⟨vs, h1, h2⟩ := Res.bind_eq_ok h0
      obtain ⟨y, h3, h4⟩ := aLen_spec (P := P) (w := w) (ty := o.type) (cs := c.args.map fun | .const _ => true | _ => false) hp (ha h1) h2
      exact ⟨y, by simp only [execOp, ho, resolve, hb, Sem.run_bind, Sem.run_pure, Result.andThen_ok, invoke]; exact h3, h4⟩
    · injection h with h0
      obtain ⟨vs, h1, h2⟩ := Res.bind_eq_ok h0
      obtain ⟨y, h3, h4⟩ := aLen_spec (P := P) (w := w) (ty := o.type) (cs := c.args.map fun | .const _ => true | _ => false) hp (ha h1) h2
      exact ⟨y, by simp only [execOp, ho, resolve, hb, Sem.run_bind, Sem.run_pure, Result.andThen_ok, invoke]; exact h3, h4⟩
    · injection h with h0
      obtain ⟨vs, h1, h2⟩ := Res.bind_eq_ok h0
      obtain ⟨y, h3, h4⟩ := aLen_spec (P := P) (w := w) (ty := o.type) (cs := c.args.map fun | .const _ => true | _ => false) hp (ha h1) h2
      exact ⟨y, by simp only [execOp, ho, resolve, hb, Sem.run_bind, Sem.run_pure, Result.andThen_ok, invoke]; exact h3, h4⟩
    · injection h with h0
      obtain ⟨vs, h1, h2⟩ := Res.bind_eq_ok h0
      obtain ⟨y, h3, h4⟩ := aLen_spec (P := P) (w := w) (ty := o.type) (cs := c.args.map fun | .const _ => true | _ => false) hp (ha h1) h2
      exact ⟨y, by simp only [execOp, ho, resolve, hb, Sem.run_bind, Sem.run_pure, Result.andThen_ok, invoke]; exact h3, h4⟩
    · cases h
    · cases h
    · cases h
  · cases h

theorem run_value {s : Sem Value} {y : Value} (h : s.run P w = .ok y w) : (do pure (.value (← s)) : Sem Next).run P w = .ok (.value y) w := by simp [h]

theorem pure_spec (hp : pc.holds ρ) {o : Oper} {ea : Operand → Res AV} {rv : Operand → Value} {v : AV} (he : EaR ρ μ o.op ea rv) (h : cls P pc ea o.op = .pure (.ok v)) :
    ∃ y, (execOp rv o).run P w = .ok (.value y) w ∧ VR ρ μ v y := by
  have lift : ∀ {s : Sem Value}, (∃ y, s.run P w = .ok y w ∧ VR ρ μ v y) → ∃ y, (do pure (.value (← s)) : Sem Next).run P w = .ok (.value y) w ∧ VR ρ μ v y :=
    fun ⟨y, h1, h2⟩ => ⟨y, run_value h1, h2⟩
  cases ho : o.op with
  | call c => rw [ho] at h; exact pure_call_spec hp ho he h
  | move x =>
    rw [ho] at h he
    have h0 : Cls.pure (ea x) = .pure (.ok v) := h
    injection h0 with h0
    exact ⟨rv x, by simp [execOp, ho], he x (by simp [Op.operands]) v h0⟩
  | «assign» x =>
    rw [ho] at h he
    have h0 : Cls.pure (ea x) = .pure (.ok v) := h
    injection h0 with h0
    exact ⟨rv x, by simp [execOp, ho], he x (by simp [Op.operands]) v h0⟩
  | pick c a b =>
    rw [ho] at h he
    have h0 : Cls.pure (aPick pc ea c a b) = .pure (.ok v) := h
    injection h0 with h0
    unfold aPick at h0
    obtain ⟨cv, h1, h2⟩ := Res.bind_eq_ok h0
    have h3 := he c (by simp [Op.operands]) cv h1
    split at h2
    · obtain ⟨t, h4, h5⟩ := Res.bind_eq_ok h2
      have h6 := decR_spec hp h4
      rw [VR, h6] at h3
      rcases cond_eq h5 with ⟨h7, h8⟩ | ⟨h7, h8⟩
      · subst h7; exact ⟨rv a, by simp [execOp, ho, h3, asBool], he a (by simp [Op.operands]) v h8⟩
      · subst h7; exact ⟨rv b, by simp [execOp, ho, h3, asBool], he b (by simp [Op.operands]) v h8⟩
    · cases h2
  | build t parts =>
    rw [ho] at h he
    have h0 : Cls.pure ((partsA ea parts.toList).bind (buildA P t)) = .pure (.ok v) := h
    injection h0 with h0
    obtain ⟨ps, h1, h2⟩ := Res.bind_eq_ok h0
    have h3 := partsA_spec (ρ := ρ) (μ := μ) (rv := rv) (fun x hx a h => he x.2 (by simp only [Op.operands, List.mem_toArray]; exact List.mem_map_of_mem hx) a h) h1
    have h4 := buildA_spec (P := P) (w := w) (ps := parts.map fun (i, x) => (i, rv x)) (by rw [Array.toList_map]; exact h3) h2
    simp only [execOp, ho]
    exact lift h4
  | nilCheck x =>
    rw [ho] at h he
    have h0 : Cls.pure ((ea x).bind aNilCheck) = .pure (.ok v) := h
    injection h0 with h0
    obtain ⟨a, h1, h2⟩ := Res.bind_eq_ok h0
    exact aNilCheck_spec ho (he x (by simp [Op.operands]) a h1) h2
  | binOp op t x y _ =>
    rw [ho] at h he
    have h0 : Cls.pure ((ea x).bind fun a => (ea y).bind fun b => binA P pc op t (isConstA x || isConstA y) a b) = .pure (.ok v) := h
    injection h0 with h0
    obtain ⟨a, h1, h2⟩ := Res.bind_eq_ok h0
    obtain ⟨b, h3, h4⟩ := Res.bind_eq_ok h2
    simp only [execOp, ho]
    exact lift (binA_spec hp (he x (by simp [Op.operands]) a h1) (he y (by simp [Op.operands]) b h3) h4)
  | unOp op _ x =>
    rw [ho] at h he
    have h0 : Cls.pure ((ea x).bind (unA pc op)) = .pure (.ok v) := h
    injection h0 with h0
    obtain ⟨a, h1, h2⟩ := Res.bind_eq_ok h0
    simp only [execOp, ho]
    exact lift (unA_spec hp (he x (by simp [Op.operands]) a h1) h2)
  | convert s d x =>
    rw [ho] at h he
    have h0 : clsConv P pc ea s d x = .pure (.ok v) := h
    unfold clsConv at h0
    rcases cond_eq h0 with ⟨_, h1⟩ | ⟨_, h1⟩
    · injection h1 with h1
      obtain ⟨a, h1, h2⟩ := Res.bind_eq_ok h1
      simp only [execOp, ho]
      exact lift (convA_spec hp (he x (by simp [Op.operands]) a h1) h2)
    · cases h1
  | makeInterface t x =>
    rw [ho] at h he
    have h0 : Cls.pure ((ea x).bind (aIface P t)) = .pure (.ok v) := h
    injection h0 with h0
    obtain ⟨a, h1, h2⟩ := Res.bind_eq_ok h0
    simp only [execOp, ho]
    exact lift (aIface_spec (he x (by simp [Op.operands]) a h1) h2)
  | makeFunc fn first captured =>
    rw [ho] at h he
    have h0 : Cls.pure (aFunc ea fn first captured) = .pure (.ok v) := h
    injection h0 with h0
    unfold aFunc at h0
    split at h0
    · obtain ⟨a, h1, h2⟩ := Res.bind_eq_ok h0
      obtain ⟨b, h3, h4⟩ := Res.bind_eq_ok h2
      cases h4
      have g1 := argsA_spec (ρ := ρ) (μ := μ) (rv := rv) (fun x hx a h => he x (by simp only [Op.operands]; exact Array.mem_append.2 (.inl (by simpa using hx))) a h) h1
      have g2 := argsA_spec (ρ := ρ) (μ := μ) (rv := rv) (fun x hx a h => he x (by simp only [Op.operands]; exact Array.mem_append.2 (.inr (by simpa using hx))) a h) h3
      rename_i f
      refine ⟨.func (.func f) (first.map rv) (captured.map rv), by simp [execOp, ho, Instr.makeFunc], ?_⟩
      rw [VR]
      exact ⟨_, _, _, rfl, rfl, by rw [Array.toList_map]; exact g1, by rw [Array.toList_map]; exact g2⟩
    · cases h0
  | slice t x lo hi mx =>
    rw [ho] at h he
    have h0 : Cls.pure ((ea x).bind fun v => (optA ea lo).bind fun lo => (optA ea hi).bind fun hi => (optA ea mx).bind fun mx => sliceA P pc t v lo hi mx) = .pure (.ok v) := h
    injection h0 with h0
    obtain ⟨a, h1, h2⟩ := Res.bind_eq_ok h0
    obtain ⟨lo', h3, h4⟩ := Res.bind_eq_ok h2
    obtain ⟨hi', h5, h6⟩ := Res.bind_eq_ok h4
    obtain ⟨mx', h7, h8⟩ := Res.bind_eq_ok h6
    have mem : ∀ {y : Operand}, y = x ∨ y ∈ lo.toArray ∨ y ∈ hi.toArray ∨ y ∈ mx.toArray → y ∈ (Op.slice t x lo hi mx).operands := by
      intro y hy
      simp only [Op.operands, Array.mem_append, List.mem_toArray, List.mem_singleton]
      rcases hy with hy | hy | hy | hy
      · exact .inl (.inl (.inl hy))
      · exact .inl (.inl (.inr hy))
      · exact .inl (.inr hy)
      · exact .inr hy
    have e1 := optA_spec (ρ := ρ) (μ := μ) (rv := rv) (fun y hy b h => he y (mem (.inr (.inl hy))) b h) h3
    have e2 := optA_spec (ρ := ρ) (μ := μ) (rv := rv) (fun y hy b h => he y (mem (.inr (.inr (.inl hy)))) b h) h5
    have e3 := optA_spec (ρ := ρ) (μ := μ) (rv := rv) (fun y hy b h => he y (mem (.inr (.inr (.inr hy)))) b h) h7
    simp only [execOp, ho]
    exact lift (sliceA_spec hp (he x (mem (.inl rfl)) a h1) e1 e2 e3 h8)
  | fieldAddr s x f =>
    rw [ho] at h he
    have h0 : Cls.pure ((ea x).bind (aFieldAddr P s f)) = .pure (.ok v) := h
    injection h0 with h0
    obtain ⟨a, h1, h2⟩ := Res.bind_eq_ok h0
    simp only [execOp, ho]
    exact lift (aFieldAddr_spec (he x (by simp [Op.operands]) a h1) h2)
  | field s x f =>
    rw [ho] at h he
    have h0 : Cls.pure ((ea x).bind (aField P s f)) = .pure (.ok v) := h
    injection h0 with h0
    obtain ⟨a, h1, h2⟩ := Res.bind_eq_ok h0
    simp only [execOp, ho]
    exact lift (aField_spec (he x (by simp [Op.operands]) a h1) h2)
  | indexAddr t x i =>
    rw [ho] at h he
    have h0 : Cls.pure ((ea x).bind fun v => (ea i).bind fun iv => (asI pc iv).bind fun e => aIndexAddr P pc t e.2 v) = .pure (.ok v) := h
    injection h0 with h0
    obtain ⟨a, h1, h2⟩ := Res.bind_eq_ok h0
    obtain ⟨iv, h3, h4⟩ := Res.bind_eq_ok h2
    obtain ⟨⟨k, e⟩, h5, h6⟩ := Res.bind_eq_ok h4
    simp only [execOp, ho]
    rw [asI_spec hp (he i (by simp [Op.operands]) iv h3) h5]
    exact lift (aIndexAddr_spec hp (he x (by simp [Op.operands]) a h1) h6)
  | index t x i =>
    rw [ho] at h he
    have h0 : Cls.pure ((ea x).bind fun v => (ea i).bind fun iv => (asI pc iv).bind fun e => aIndex P pc t e.2 v) = .pure (.ok v) := h
    injection h0 with h0
    obtain ⟨a, h1, h2⟩ := Res.bind_eq_ok h0
    obtain ⟨iv, h3, h4⟩ := Res.bind_eq_ok h2
    obtain ⟨⟨k, e⟩, h5, h6⟩ := Res.bind_eq_ok h4
    simp only [execOp, ho]
    rw [asI_spec hp (he i (by simp [Op.operands]) iv h3) h5]
    exact lift (aIndex_spec hp (he x (by simp [Op.operands]) a h1) h6)
  | extract x i =>
    rw [ho] at h he
    have h0 : Cls.pure ((ea x).bind (aExtract i)) = .pure (.ok v) := h
    injection h0 with h0
    obtain ⟨a, h1, h2⟩ := Res.bind_eq_ok h0
    simp only [execOp, ho]
    exact lift (aExtract_spec (he x (by simp [Op.operands]) a h1) h2)
  | next it str => rw [ho] at h; cases str <;> cases h
  | _ => rw [ho] at h; cases h

end
end Go.Ev

/- How the evaluator's heap stands for the model's, and how a step keeps that; no theorem of the program yet; no conditions. -/
namespace Go.Ev

abbrev G := Nat → Option Blk
def upd {α : Type} (g : Nat → α) (id : Nat) (b : α) : Nat → α := fun j => if j = id then b else g j

theorem H.get_set (h : H) (id : Nat) (b : Blk) : (h.set id b).get = upd h.get id (some b) := by
  funext j
  show (h.tr.put id b).get j = _
  rw [T.get_put]; rfl
theorem H.get_del (h : H) (id : Nat) : (h.del id).get = upd h.get id none := by
  funext j
  show (h.tr.del id).get j = _
  rw [T.get_del]; rfl
theorem H.get_new (h : H) (b : Blk) : (h.new b).get = upd h.get h.next (some b) := by
  funext j
  show (h.tr.put h.next b).get j = _
  rw [T.get_put]; rfl
theorem H.next_set (h : H) (id : Nat) (b : Blk) : (h.set id b).next = h.next := rfl
theorem H.next_del (h : H) (id : Nat) : (h.del id).next = h.next := rfl
theorem H.next_new (h : H) (b : Blk) : (h.new b).next = h.next + 1 := rfl

section
variable {ρ : Env}

/-- A map's entries: keys that are told, values. -/
def ER (ρ : Env) (μ : Mu) : List (AV × AV) → List MapEntry → Prop
  | [], l => l = []
  | (k, v) :: r, l => ∃ e l', l = e :: l' ∧ (∃ kd n, k = .int kd (.lit n) ∧ e.key = .int kd n) ∧ VR ρ μ v e.val ∧ ER ρ μ r l'

theorem ER_mono {ρ : Env} {μ μ' : Mu} (h : μ.le μ') : ∀ {es : List (AV × AV)} {l : List MapEntry}, ER ρ μ es l → ER ρ μ' es l
  | [], _, hl => hl
  | _ :: _, _, ⟨e, l', h1, h2, h3, h4⟩ => ⟨e, l', h1, h2, VR_mono h h3, ER_mono h h4⟩

/-- A block of the evaluator's stands for an object of the model's. -/
def BR (ρ : Env) (μ : Mu) (p : Loc) : Blk → Obj → Prop
  | .cells own opn ety n vals, o => ∃ c e fr, o = .cells c e fr ∧ p.2.2 = c.size ∧ p.2.1 + n ≤ c.size ∧
      (own = true → p.2.1 = 0 ∧ fr = (0, 0) ∧ e = ety ∧ (opn = false → n = c.size)) ∧
      ∀ j v, j < n → vals.get j = some v → ∃ x, c[p.2.1 + j]? = some x ∧ VR ρ μ v x
  | .loop fn nt mask tm ps assign body st pend dfr, o => ∃ L q, o = .loop L ∧ L.params.toList = ps ∧ L.assign = assign ∧ L.body = body ∧ L.state = st ∧ L.pending = pend ∧
      μ dfr = some q ∧ L.defers = q.1 ∧ L.tmps.size = nt ∧ ∀ t v, bit mask t = true → tm.get t = some v → ∃ x, L.tmps[t]? = some x ∧ VR ρ μ v x
  | .defs, o => o = .deferred (some [])
  | .map es, o => ∃ arr clock, o = .map arr clock ∧ ER ρ μ es arr.toList
  | .siter n bs pos, o => ∃ s, o = .stringIter s pos ∧ SR ρ n bs s ∧ p.2.1 = 0
  | .pickb f x, o => ∃ n : Nat, ρ.fn f [x.den ρ] = n ∧ ∃ c e fr, o = .cells c e fr ∧ p.2.2 = c.size ∧ p.2.1 + n ≤ c.size ∧ ∀ i : Nat, i < n → c[p.2.1 + i]? = some (.int .i64 (ρ.fn f [x.den ρ, i]))

theorem BR_mono {μ μ' : Mu} (h : μ.le μ') {p : Loc} {b : Blk} {o : Obj} (hb : BR ρ μ p b o) : BR ρ μ' p b o := by
  cases b with
  | cells own opn ety n vals =>
    obtain ⟨c, e, fr, h1, h2, h3, h4, h5⟩ := hb
    exact ⟨c, e, fr, h1, h2, h3, h4, fun j v hj hv => let ⟨x, h6, h7⟩ := h5 j v hj hv; ⟨x, h6, VR_mono h h7⟩⟩
  | loop fn nt mask tm ps assign body st pend dfr =>
    obtain ⟨L, q, h1, h3, h4, h5, h6, h7, h8, h9, h10, h11⟩ := hb
    exact ⟨L, q, h1, h3, h4, h5, h6, h7, h _ _ h8, h9, h10, fun t v ht hv => let ⟨x, h6, h7⟩ := h11 t v ht hv; ⟨x, h6, VR_mono h h7⟩⟩
  | defs => exact hb
  | map es =>
    obtain ⟨arr, clock, h1, h2⟩ := hb
    exact ⟨arr, clock, h1, ER_mono h h2⟩
  | siter n bs pos => exact hb
  | pickb l x => exact hb

structure Rel (ρ : Env) (μ : Mu) (g : G) (nx : Nat) (w : World) : Prop where
  blk : ∀ id b, g id = some b → ∃ p o, μ id = some p ∧ w.heap[p.1]? = some o ∧ BR ρ μ p b o
  inj : ∀ i j b b' p q, g i = some b → g j = some b' → b.own = true → i ≠ j → μ i = some p → μ j = some q → p.1 ≠ q.1
  fresh : ∀ id p, μ id = some p → id < nx
  glob : ∀ k, k < 64 → ∃ z, μ k = some (k, 0, z)

/-- What a piece of work has done. -/
structure Stp (μ : Mu) (g : G) (nx : Nat) (w : World) (μ' : Mu) (g' : G) (w' : World) : Prop where
  le : μ.le μ'
  new : ∀ id p, μ' id = some p → μ id = some p ∨ nx ≤ id
  ids : ∀ id b, g' id = some b → (∃ b', g id = some b') ∨ nx ≤ id
  size : w.heap.size ≤ w'.heap.size
  tape : w'.tape = w.tape
  os : w'.os = w.os
  output : w'.output = w.output
  frame : ∀ b, b < w.heap.size → (∀ id bk p, g id = some bk → bk.own = true → μ id = some p → p.1 ≠ b) → w'.heap[b]? = w.heap[b]?
  own : ∀ id bk p, g' id = some bk → μ' id = some p → w.heap.size ≤ p.1 ∨ ∃ id' bk' p', g id' = some bk' ∧ μ id' = some p' ∧ p'.1 = p.1 ∧ (bk.own = true → bk'.own = true)
  fz : ∀ a, a.block < w.heap.size → w'.frozen? a = w.frozen? a

theorem Stp.refl (μ : Mu) (g : G) (nx : Nat) (w : World) : Stp μ g nx w μ g w :=
  ⟨Mu.le_refl _, fun _ _ h => .inl h, fun _ b h => .inl ⟨b, h⟩, Nat.le_refl _, rfl, rfl, rfl, fun _ _ _ => rfl, fun id bk p h h' => .inr ⟨id, bk, p, h, h', rfl, fun h => h⟩, fun _ _ => rfl⟩

theorem Stp.trans {μ μ1 μ2 : Mu} {g g1 g2 : G} {nx nx1 : Nat} {w w1 w2 : World} (s : Stp μ g nx w μ1 g1 w1) (t : Stp μ1 g1 nx1 w1 μ2 g2 w2) (hn : nx ≤ nx1) : Stp μ g nx w μ2 g2 w2 where
  le := Mu.le_trans s.le t.le
  new := fun id p h => by
    rcases t.new id p h with h | h
    · exact s.new id p h
    · exact .inr (Nat.le_trans hn h)
  ids := fun id b h => by
    rcases t.ids id b h with ⟨b', h⟩ | h
    · exact s.ids id b' h
    · exact .inr (Nat.le_trans hn h)
  size := Nat.le_trans s.size t.size
  tape := t.tape.trans s.tape
  os := t.os.trans s.os
  output := t.output.trans s.output
  frame := fun b hb ho => by
    rw [t.frame b (Nat.lt_of_lt_of_le hb s.size) ?_, s.frame b hb ho]
    intro id bk p h1 h2 h3 e
    rcases s.own id bk p h1 h3 with h | ⟨id', bk', p', h4, h5, h6, h7⟩
    · omega
    · exact ho id' bk' p' h4 (h7 h2) h5 (h6.trans e)
  own := fun id bk p h h' => by
    rcases t.own id bk p h h' with h | ⟨id', bk', p', h4, h5, h6, h7⟩
    · exact .inl (Nat.le_trans s.size h)
    · rcases s.own id' bk' p' h4 h5 with h | ⟨id2, bk2, p2, h8, h9, h10, h11⟩
      · exact .inl (h6 ▸ h)
      · exact .inr ⟨id2, bk2, p2, h8, h9, h10.trans h6, fun h => h11 (h7 h)⟩
  fz := fun a ha => (t.fz a (Nat.lt_of_lt_of_le ha s.size)).trans (s.fz a ha)

theorem Stp.lower {μ μ1 : Mu} {g g1 : G} {nx nx0 : Nat} {w w1 : World} (s : Stp μ g nx w μ1 g1 w1) (h : nx0 ≤ nx) : Stp μ g nx0 w μ1 g1 w1 :=
  Stp.trans (Stp.refl μ g nx0 w) s h

theorem setRow_fz (w : World) (g : Nat) (cs : Array Value) (a : Addr) : (w.setRow g cs).frozen? a = w.frozen? a := by
  unfold World.frozen? World.setRow
  simp only [Array.getElem?_modify]
  by_cases h : g = a.block
  · rw [if_pos h]
    cases hh : w.heap[a.block]? with
    | none => rfl
    | some o => cases o <;> rfl
  · rw [if_neg h]

theorem other_fz (w : World) (o : Obj) (ho : ∀ c e fr, o ≠ .cells c e fr) (a : Addr) : (w.alloc o).frozen? a = w.frozen? a := by
  by_cases h : a.block = w.heap.size
  · have e1 : (w.alloc o).heap[a.block]? = some o := by rw [h]; exact heap_alloc_new w o
    have e2 : w.heap[a.block]? = none := by rw [h]; simp
    unfold World.frozen?
    rw [e1, e2]
    cases o <;> first | rfl | exact absurd rfl (ho _ _ _)
  · exact World.frozen?_alloc_old _ _ _ h

theorem put_fz {w : World} {r : Nat} {o o' : Obj} (hr : w.heap[r]? = some o) (ho : ∀ c e fr, o ≠ .cells c e fr) (ho' : ∀ c e fr, o' ≠ .cells c e fr) (a : Addr) : (w.putObj r o').frozen? a = w.frozen? a := by
  unfold World.frozen?
  by_cases h : a.block = r
  · have hlt := (Array.getElem?_eq_some_iff.1 hr).1
    rw [h, World.putObj_heap_same hlt, hr]
    cases o <;> first | exact absurd rfl (ho _ _ _) | (cases o' <;> first | exact absurd rfl (ho' _ _ _) | rfl)
  · rw [World.putObj_heap_other h]

theorem Rel.lt {μ : Mu} {g : G} {nx : Nat} {w : World} (R : Rel ρ μ g nx w) {id : Nat} {b : Blk} {p : Loc} (h : g id = some b) (hp : μ id = some p) : p.1 < w.heap.size := by
  obtain ⟨p', o, h1, h2, _⟩ := R.blk id b h
  rw [hp] at h1
  cases h1
  exact (Array.getElem?_eq_some_iff.1 h2).1

/-- Less is told: some blocks are not spoken of. -/
theorem Rel.sub {μ : Mu} {g g' : G} {nx nx' : Nat} {w : World} (R : Rel ρ μ g nx w) (hg : ∀ id b, g' id = some b → g id = some b) (hn : nx ≤ nx') : Rel ρ μ g' nx' w where
  blk := fun id b h => R.blk id b (hg id b h)
  inj := fun i j b b' p q h h' => R.inj i j b b' p q (hg i b h) (hg j b' h')
  fresh := fun id p h => Nat.lt_of_lt_of_le (R.fresh id p h) hn
  glob := R.glob

/-- What a step has not owned is as it was: blocks beside the step's own. -/
theorem Rel.beside {μ μ' : Mu} {g g' x : G} {nx nx' : Nat} {w w' : World} (R : Rel ρ μ x nx w) (hgx : ∀ id b, g id = some b → x id = some b)
    (S : Stp μ g nx w μ' g' w') (R' : Rel ρ μ' g' nx' w') {y : G} (hy : ∀ id b, y id = some b → g' id = some b ∨ (x id = some b ∧ g id = none)) : Rel ρ μ' y nx' w' where
  blk := fun id b h => by
    rcases hy id b h with h | ⟨h, hn⟩
    · exact R'.blk id b h
    · obtain ⟨p, o, h1, h2, h3⟩ := R.blk id b h
      refine ⟨p, o, S.le _ _ h1, ?_, BR_mono S.le h3⟩
      rw [S.frame p.1 (Array.getElem?_eq_some_iff.1 h2).1 ?_, h2]
      intro id' bk p' h4 h5 h6
      exact R.inj id' id bk b p' p (hgx _ _ h4) h h5 (fun e => by subst e; rw [hn] at h4; cases h4) h6 h1
  inj := fun i j b b' p q hi hj ho hne hp hq => by
    have old : ∀ {id : Nat} {b : Blk} {p : Loc}, x id = some b → μ' id = some p → μ id = some p := by
      intro id b p h hp
      obtain ⟨p', o, h1, _⟩ := R.blk id b h
      rw [S.le _ _ h1] at hp
      cases hp
      exact h1
    rcases hy i b hi with hi | ⟨hi, hin⟩ <;> rcases hy j b' hj with hj | ⟨hj, hjn⟩
    · exact R'.inj i j b b' p q hi hj ho hne hp hq
    · have hq0 := old hj hq
      rcases S.own i b p hi hp with h | ⟨id', bk', p', h1, h2, h3, h4⟩
      · have := R.lt hj hq0
        omega
      · intro e
        exact R.inj id' j bk' b' p' q (hgx _ _ h1) hj (h4 ho) (fun e => by subst e; rw [hjn] at h1; cases h1) h2 hq0 (h3.trans e)
    · have hp0 := old hi hp
      rcases S.own j b' q hj hq with h | ⟨id', bk', q', h1, h2, h3, h4⟩
      · have := R.lt hi hp0
        omega
      · intro e
        exact R.inj i id' b bk' p q' hi (hgx _ _ h1) ho (fun e => by subst e; rw [hin] at h1; cases h1) hp0 h2 (e.trans h3.symm)
    · exact R.inj i j b b' p q hi hj ho hne (old hi hp) (old hj hq)
  fresh := R'.fresh
  glob := R'.glob

/-- A block's object is replaced. -/
theorem Rel.replace {μ : Mu} {g : G} {nx : Nat} {w w' : World} {id : Nat} {b b' : Blk} {p : Loc} {o' : Obj} (R : Rel ρ μ g nx w) (hb : g id = some b) (ho : b.own = true) (ho' : b'.own = true) (hp : μ id = some p)
    (hs : w'.heap.size = w.heap.size) (hk : ∀ k, k ≠ p.1 → w'.heap[k]? = w.heap[k]?) (hv : w'.heap[p.1]? = some o') (hB : BR ρ μ p b' o') (h1 : w'.tape = w.tape) (h2 : w'.os = w.os) (h3 : w'.output = w.output) (h4 : ∀ a, w'.frozen? a = w.frozen? a) :
    Rel ρ μ (upd g id (some b')) nx w' ∧ Stp μ g nx w μ (upd g id (some b')) w' := by
  constructor
  · refine ⟨?_, ?_, R.fresh, R.glob⟩
    · intro j c hc
      unfold upd at hc
      split at hc
      · rename_i e; subst e; cases hc; exact ⟨p, o', hp, hv, hB⟩
      · rename_i e
        obtain ⟨q, o, h4, h5, h6⟩ := R.blk j c hc
        exact ⟨q, o, h4, by rw [hk _ (fun e' => R.inj id j b c p q hb hc ho (fun h => e h.symm) hp h4 e'.symm), h5], h6⟩
    · intro i j c c' q r hi hj hoc hne hq hr
      unfold upd at hi hj
      split at hi
      · rename_i e; subst e; cases hi
        rw [if_neg (fun h => hne h.symm)] at hj
        exact R.inj i j b c' q r hb hj ho hne hq hr
      · split at hj
        · rename_i e; subst e; cases hj
          exact R.inj i j c b q r hi hb hoc hne hq hr
        · exact R.inj i j c c' q r hi hj hoc hne hq hr
  · refine ⟨Mu.le_refl _, fun _ _ h => .inl h, ?_, by rw [hs]; exact Nat.le_refl _, h1, h2, h3, ?_, ?_, fun a _ => h4 a⟩
    · intro j c hc
      unfold upd at hc
      split at hc
      · rename_i e; subst e; exact .inl ⟨_, hb⟩
      · exact .inl ⟨_, hc⟩
    · intro k _ hno
      exact hk k (fun e => hno id b p hb ho hp e.symm)
    · intro j c q hc hq
      unfold upd at hc
      split at hc
      · rename_i e; subst e; exact .inr ⟨j, b, q, hb, hq, rfl, fun _ => ho⟩
      · exact .inr ⟨j, c, q, hc, hq, rfl, fun h => h⟩

/-- A new block. -/
theorem Rel.alloc {μ : Mu} {g : G} {nx nx0 nx' : Nat} {w w' : World} {id z : Nat} {b : Blk} {o : Obj} (R : Rel ρ μ g nx w) (hid : μ id = none) (hn0 : nx0 ≤ id) (hn : id < nx') (hnx : nx ≤ nx')
    (hs : w'.heap.size = w.heap.size + 1) (hk : ∀ k, k < w.heap.size → w'.heap[k]? = w.heap[k]?) (hv : w'.heap[w.heap.size]? = some o) (hB : BR ρ (upd μ id (some (w.heap.size, 0, z))) (w.heap.size, 0, z) b o)
    (h1 : w'.tape = w.tape) (h2 : w'.os = w.os) (h3 : w'.output = w.output) (h4 : ∀ a, a.block < w.heap.size → w'.frozen? a = w.frozen? a) :
    Rel ρ (upd μ id (some (w.heap.size, 0, z))) (upd g id (some b)) nx' w' ∧ Stp μ g nx0 w (upd μ id (some (w.heap.size, 0, z))) (upd g id (some b)) w' := by
  have hle : μ.le (upd μ id (some (w.heap.size, 0, z))) := by
    intro j p h
    unfold upd
    split
    · rename_i e; subst e; rw [hid] at h; cases h
    · exact h
  have hg : ∀ c, g id ≠ some c := fun c h => by obtain ⟨p, _, h4, _⟩ := R.blk id c h; rw [hid] at h4; cases h4
  have hmu : ∀ {j p}, j ≠ id → upd μ id (some (w.heap.size, 0, z)) j = some p → μ j = some p := by
    intro j p hj h; unfold upd at h; rwa [if_neg hj] at h
  constructor
  · refine ⟨?_, ?_, ?_, ?_⟩
    · intro j c hc
      unfold upd at hc
      split at hc
      · rename_i e; subst e; cases hc; exact ⟨(w.heap.size, 0, z), o, by simp [upd], hv, hB⟩
      · obtain ⟨q, o, h4, h5, h6⟩ := R.blk j c hc
        exact ⟨q, o, hle _ _ h4, by rw [hk _ (Array.getElem?_eq_some_iff.1 h5).1, h5], BR_mono hle h6⟩
    · intro i j c c' q r hi hj hoc hne hq hr
      unfold upd at hi hj
      split at hi
      · rename_i e; subst e; cases hi
        rw [if_neg (fun h => hne h.symm)] at hj
        have h4 := R.lt hj (hmu (fun h => hne h.symm) hr)
        simp [upd] at hq
        rw [← hq]; exact fun e => by simp only at e; omega
      · rename_i e
        have hq' := hmu e hq
        split at hj
        · rename_i e'; subst e'; cases hj
          have h4 := R.lt hi hq'
          simp [upd] at hr
          rw [← hr]; exact fun e => by simp only at e; omega
        · rename_i e'
          exact R.inj i j c c' q r hi hj hoc hne hq' (hmu e' hr)
    · intro j p h
      by_cases e : j = id
      · omega
      · exact Nat.lt_of_lt_of_le (R.fresh j p (hmu e h)) hnx
    · intro k hk
      obtain ⟨y, hy⟩ := R.glob k hk
      exact ⟨y, hle _ _ hy⟩
  · refine ⟨hle, ?_, ?_, by omega, h1, h2, h3, fun k hb _ => hk k hb, ?_, h4⟩
    · intro j p h
      by_cases e : j = id
      · exact .inr (by omega)
      · exact .inl (hmu e h)
    · intro j c hc
      unfold upd at hc
      split at hc
      · exact .inr (by omega)
      · exact .inl ⟨_, hc⟩
    · intro j c q hc hq
      by_cases e : j = id
      · subst e
        simp [upd] at hq
        rw [← hq]; exact .inl (Nat.le_refl _)
      · unfold upd at hc
        rw [if_neg e] at hc
        exact .inr ⟨j, c, q, hc, hmu e hq, rfl, fun h => h⟩

/-- A block is forgotten. -/
theorem Rel.del {μ : Mu} {g : G} {nx : Nat} {w : World} (id : Nat) (R : Rel ρ μ g nx w) : Rel ρ μ (upd g id none) nx w ∧ Stp μ g nx w μ (upd g id none) w := by
  have sub : ∀ j b, upd g id none j = some b → g j = some b := by
    intro j b h
    unfold upd at h
    split at h
    · cases h
    · exact h
  exact ⟨R.sub sub (Nat.le_refl _), Mu.le_refl _, fun _ _ h => .inl h, fun j b h => .inl ⟨b, sub j b h⟩, Nat.le_refl _, rfl, rfl, rfl, fun _ _ _ => rfl, fun j b p h h' => .inr ⟨j, b, p, sub j b h, h', rfl, fun h => h⟩, fun _ _ => rfl⟩

end
end Go.Ev

/- The evaluator's loads, stores and new blocks are the model's; no theorem of the program yet; no conditions. -/
namespace Go.Ev
section
variable {ρ : Env} {μ : Mu} {P : Program} {pc : PC} {w : World} {g : G} {nx : Nat}

/-- What an operation that is no call comes to. -/
def Done (ρ : Env) (μ : Mu) (g : G) (nx0 : Nat) (w : World) (g' : G) (nx' : Nat) (v : Option AV) (res : Result Next) : Prop :=
  ∃ x w' μ', (res = .ok (.value x) w' ∨ (res = .ok .skip w' ∧ x = undef)) ∧ Rel ρ μ' g' nx' w' ∧ Stp μ g nx0 w μ' g' w' ∧ ∀ a, v = some a → VR ρ μ' a x

theorem Done.same {v : Option AV} {res : Result Next} (R : Rel ρ μ g nx w) {x : Value} (h : res = .ok (.value x) w) (hv : ∀ a, v = some a → VR ρ μ a x) : Done ρ μ g nx w g nx v res :=
  ⟨x, w, μ, .inl h, R, Stp.refl _ _ _ _, hv⟩

theorem VRs_size {as : List AV} {xs : Array Value} (h : VRs ρ μ as xs.toList) : as.length = xs.size := by rw [VRs_length h]; exact Array.length_toList

theorem fillA_length {pl : Nat → Option (Nat × Nat)} : ∀ {parts : List (Nat × AV)} {cells r : List AV}, fillA pl cells parts = some r → r.length = cells.length := by
  intro parts
  induction parts with
  | nil => intro cells r h; cases h; rfl
  | cons p parts ih =>
    obtain ⟨i, a⟩ := p
    intro cells r h
    simp only [fillA] at h
    split at h
    · cases h
    · rcases cond_eq h with ⟨_, h2⟩ | ⟨_, h2⟩
      · rw [ih h2, layA_length]
      · cases h2

/-! ### Loads -/
theorem rd_spec {h : H} {id off n : Nat} {cs : List AV} (R : Rel ρ μ g nx w) (hb : ∀ b, h.get id = some b → g id = some b) (hr : rd h id off n = .ok cs) :
    ∃ p xs c e fr, μ id = some p ∧ w.heap[p.1]? = some (.cells c e fr) ∧ p.2.2 = c.size ∧ p.2.1 + off + n ≤ c.size ∧ VRs ρ μ cs xs ∧ xs.length = n ∧ ∀ j x, xs[j]? = some x → c[p.2.1 + off + j]? = some x := by
  unfold rd at hr
  split at hr
  · rename_i own opn ety m vals he
    rcases cond_eq hr with ⟨h1, h2⟩ | ⟨_, h2⟩
    · clear hr
      have h1 : off + n ≤ m := by simpa using h1
      have h3 := Res.ofO_eq_ok h2
      obtain ⟨h4, h5⟩ := T.gets_spec _ _ _ _ h3
      obtain ⟨p, o, hp, ho, c, e, fr, rfl, h6, h7, _, h8⟩ := R.blk _ _ (hb _ he)
      have hl : ((c.toList.drop (p.2.1 + off)).take n).length = n := by simp; omega
      have hx : ∀ j x, ((c.toList.drop (p.2.1 + off)).take n)[j]? = some x → c[p.2.1 + off + j]? = some x := by
        intro j x hx
        rw [List.getElem?_take] at hx
        split at hx
        · rw [List.getElem?_drop, Array.getElem?_toList] at hx; exact hx
        · cases hx
      refine ⟨p, (c.toList.drop (p.2.1 + off)).take n, c, e, fr, hp, ho, h6, by omega, VRs_of_get (by rw [hl, h4]) ?_, hl, hx⟩
      intro i a v ha hv
      have hi : i < n := by rw [← h4]; exact (List.getElem?_eq_some_iff.1 ha).1
      obtain ⟨x, h9, h10⟩ := h8 (off + i) a (by omega) (h5 i a ha)
      have h11 := hx i v hv
      rw [Nat.add_assoc, h9] at h11
      cases h11
      exact h10
    · cases h2
  · cases hr

theorem cell_at {c : Array Value} {e : TypeId} {fr : Nat × Nat} {b j : Nat} (h : w.heap[b]? = some (.cells c e fr)) : w.cell? ⟨b, j, none⟩ = c[j]? := by simp [World.cell?, h]

theorem T.strides_spec {α : Type} : ∀ {t : T α} {es k n : Nat} {l : List α}, t.strides es k n = some l → l.length = n ∧ ∀ j, j < n → t.get (k + j * es) = l[j]? := by
  intro t es k n
  induction n generalizing k with
  | zero => intro l h; cases h; exact ⟨rfl, fun j hj => absurd hj (Nat.not_lt_zero j)⟩
  | succ n ih =>
    intro l h
    have h0 : (Option.rec none (fun x => Option.rec none (fun xs => some (x :: xs)) (t.strides es (k + es) n)) (t.get k) : Option (List α)) = some l := h
    cases hx : t.get k with
    | none => rw [hx] at h0; cases h0
    | some x =>
      rw [hx] at h0
      cases hs : t.strides es (k + es) n with
      | none =>
        have h1 : (Option.rec none (fun xs => some (x :: xs)) (t.strides es (k + es) n) : Option (List α)) = some l := h0
        rw [hs] at h1; cases h1
      | some xs =>
        have h1 : (Option.rec none (fun xs => some (x :: xs)) (t.strides es (k + es) n) : Option (List α)) = some l := h0
        rw [hs] at h1
        cases h1
        obtain ⟨q1, q2⟩ := ih hs
        refine ⟨by simp [q1], ?_⟩
        intro j hj
        cases j with
        | zero => simpa using hx
        | succ j =>
          have := q2 j (by omega)
          rw [List.getElem?_cons_succ, ← this, Nat.succ_mul]
          congr 1; omega

theorem VRn_get {μ : Mu} : ∀ {as : List AV} {j : Nat} {v : Value}, VRn ρ μ as j v ↔ ∃ a, as[j]? = some a ∧ VR ρ μ a v
  | [], j, v => ⟨fun h => h.elim, fun ⟨a, h, _⟩ => by simp at h⟩
  | a :: as, 0, v => ⟨fun h => ⟨a, rfl, h⟩, fun ⟨b, h, h2⟩ => by simp at h; subst h; exact h2⟩
  | a :: as, j + 1, v => by
    have : VRn ρ μ as j v ↔ ∃ a, as[j]? = some a ∧ VR ρ μ a v := VRn_get
    rw [List.getElem?_cons_succ]
    exact this

theorem colA_spec {h : H} {id off es n j : Nat} {col : List AV} {e : SE} (R : Rel ρ μ g nx w) (hb : ∀ b, h.get id = some b → g id = some b) (hr : colA h id off es n = .ok col) (hj : j < n) (he : e.den ρ = j) {p : Loc} (hp : μ id = some p) :
    ∃ x c ety fr, w.heap[p.1]? = some (.cells c ety fr) ∧ c[p.2.1 + (off + j * es)]? = some x ∧ VR ρ μ (.pick col e) x := by
  unfold colA at hr
  split at hr
  · rename_i own opn ety m vals hg
    rcases cond_eq hr with ⟨h1, h2⟩ | ⟨_, h2⟩
    · have h1 : off + (n - 1) * es < m := by simpa using h1
      obtain ⟨l, h3, h2⟩ := Res.bind_eq_ok h2
      have h3 := Res.ofO_eq_ok h3
      rcases cond_eq h2 with ⟨hone, h2⟩ | ⟨_, h2⟩
      case inr => cases h2
      cases h2
      obtain ⟨h4, h5⟩ := T.strides_spec h3
      obtain ⟨p', o, hp', ho, c, e', fr, rfl, h6, h7, _, h8⟩ := R.blk _ _ (hb _ hg)
      rw [hp] at hp'
      cases hp'
      have hle : off + j * es < m := by
        have : j * es ≤ (n - 1) * es := Nat.mul_le_mul_right _ (by omega)
        omega
      have hgt := h5 j hj
      have hjl : j < col.length := by omega
      rw [List.getElem?_eq_getElem hjl] at hgt
      obtain ⟨x, h9, h10⟩ := h8 (off + j * es) _ hle hgt
      refine ⟨x, c, e', fr, ho, h9, ?_⟩
      rw [VR]
      exact ⟨j, he, VRn_get.2 ⟨_, List.getElem?_eq_getElem hjl, h10⟩, VR_one h10 (List.all_eq_true.1 hone _ (List.getElem_mem hjl))⟩
    · cases h2
  · cases hr

theorem colsA_spec {h : H} {id es n j : Nat} {e : SE} (R : Rel ρ μ g nx w) (hb : ∀ b, h.get id = some b → g id = some b) (hj : j < n) (he : e.den ρ = j) {p : Loc} (hp : μ id = some p) {c : Array Value} {ety : TypeId} {fr : Nat × Nat} (ho : w.heap[p.1]? = some (.cells c ety fr)) :
    ∀ {k off : Nat} {cs : List AV}, colsA h id off es n e k = .ok cs → ∃ xs : List Value, xs.length = k ∧ VRs ρ μ cs xs ∧ ∀ i x, xs[i]? = some x → c[p.2.1 + (off + j * es) + i]? = some x
  | 0, off, cs, hr => by cases hr; exact ⟨[], rfl, VRs_nil.2 rfl, fun i x h => by simp at h⟩
  | k + 1, off, cs, hr => by
    obtain ⟨col, h1, h2⟩ := Res.bind_eq_ok hr
    obtain ⟨cs', h3, h4⟩ := Res.bind_eq_ok h2
    cases h4
    obtain ⟨x, c', _, _, ho', hx, hv⟩ := colA_spec (e := e) R hb h1 hj he hp
    rw [ho] at ho'
    cases ho'
    obtain ⟨xs, q1, q2, q3⟩ := colsA_spec R hb hj he hp ho h3
    refine ⟨x :: xs, by simp [q1], VRs_cons.2 ⟨x, xs, rfl, hv, q2⟩, ?_⟩
    intro i y hy
    cases i with
    | zero => simp at hy; subst hy; exact hx
    | succ i =>
      rw [List.getElem?_cons_succ] at hy
      have := q3 i y hy
      rw [← this]
      congr 1; omega

/-- Does a pointer lead to this block? -/
def AV.leads (a : AV) (id : Nat) : Prop := (∃ off, a = .ptr id off) ∨ ∃ off es n e, a = .ptrv id off es n e

theorem aLoad_spec {h : H} {t : Nat} {a r : AV} {v : Value} (R : Rel ρ μ g nx w) (hb : ∀ id b, a.leads id → h.get id = some b → g id = some b) (hv : VR ρ μ a v) (hr : aLoad P h t a = .ok r) :
    ∃ y, (Instr.loadAt t v).run P w = .ok y w ∧ VR ρ μ r y := by
  unfold aLoad at hr
  split at hr
  · rename_i id off
    obtain ⟨ti, h1, h0⟩ := Res.bind_eq_ok hr
    have hi := tdR_spec h1
    rw [VR] at hv
    obtain ⟨p, hp, rfl⟩ := hv
    rcases cond_eq h0 with ⟨h2, h3⟩ | ⟨h2, h3⟩
    · obtain ⟨cs, h4, h5⟩ := Res.bind_eq_ok h3
      cases h5
      obtain ⟨p', xs, c, e, fr, hp', ho, _, _, hx, hl, hc⟩ := rd_spec R (fun b => hb id b (.inl ⟨off, rfl⟩)) h4
      rw [hp] at hp'
      cases hp'
      refine ⟨.agg xs.toArray, ?_, by rw [VR]; exact ⟨_, rfl, hx⟩⟩
      have := run_loadCells_list (P := P) w ⟨p.1, p.2.1 + off, none⟩ xs (fun j x hx => by rw [addr_add, cell_at ho]; exact hc j x hx)
      rw [hl] at this
      simp [Instr.loadAt, Instr.sureAddr, loadVar, run_isAgg hi, run_size hi, h2, this]
    · obtain ⟨cs, h4, h5⟩ := Res.bind_eq_ok h3
      split at h5
      · cases h5
        obtain ⟨p', xs, c, e, fr, hp', ho, _, _, hx, hl, hc⟩ := rd_spec R (fun b => hb id b (.inl ⟨off, rfl⟩)) h4
        rw [hp] at hp'
        cases hp'
        rw [VRs_cons] at hx
        obtain ⟨y, ys, rfl, hy, _⟩ := hx
        refine ⟨y, ?_, hy⟩
        have := hc 0 y rfl
        have h6 : w.cell? ⟨p.1, p.2.1 + off, none⟩ = some y := by rw [cell_at ho]; exact this
        simp [Instr.loadAt, Instr.sureAddr, loadVar, run_isAgg hi, h2, h6]
      · cases h5
  · rename_i id off es n e
    obtain ⟨ti, h1, h0⟩ := Res.bind_eq_ok hr
    have hi := tdR_spec h1
    rw [VR] at hv
    obtain ⟨p, j, hp, hj, hjn, rfl⟩ := hv
    have hb' : ∀ b, h.get id = some b → g id = some b := fun b => hb id b (.inr ⟨off, es, n, e, rfl⟩)
    rcases cond_eq h0 with ⟨h2, h3⟩ | ⟨h2, h3⟩
    · obtain ⟨cs, h4, h5⟩ := Res.bind_eq_ok h3
      cases h5
      obtain ⟨c, ety, fr, ho⟩ : ∃ c ety fr, w.heap[p.1]? = some (.cells c ety fr) ∨ ti.size = 0 := by
        cases hsz : ti.size with
        | zero => exact ⟨#[], 0, (0, 0), .inr rfl⟩
        | succ k =>
          rw [hsz] at h4
          obtain ⟨col, q1, _⟩ := Res.bind_eq_ok h4
          obtain ⟨x, c, ety, fr, ho, _⟩ := colA_spec (e := e) R hb' q1 hjn hj hp
          exact ⟨c, ety, fr, .inl ho⟩
      have fin : ∀ {xs : List Value}, xs.length = ti.size → VRs ρ μ cs xs → (∀ i x, xs[i]? = some x → w.cell? ((⟨p.1, p.2.1 + (off + j * es), none⟩ : Addr).add i) = some x) →
          ∃ y, (Instr.loadAt t (.pointer (some ⟨p.1, p.2.1 + (off + j * es), none⟩))).run P w = .ok y w ∧ VR ρ μ (.agg cs) y := by
        intro xs hl hx hc
        refine ⟨.agg xs.toArray, ?_, by rw [VR]; exact ⟨_, rfl, hx⟩⟩
        have := run_loadCells_list (P := P) w ⟨p.1, p.2.1 + (off + j * es), none⟩ xs hc
        rw [hl] at this
        simp [Instr.loadAt, Instr.sureAddr, loadVar, run_isAgg hi, run_size hi, h2, this]
      rcases ho with ho | hz0
      · obtain ⟨xs, q1, q2, q3⟩ := colsA_spec R hb' hjn hj hp ho h4
        exact fin q1 q2 fun i x hx => by rw [addr_add, cell_at ho]; exact q3 i x hx
      · rw [hz0] at h4
        cases h4
        exact fin (xs := []) hz0.symm (VRs_nil.2 rfl) (fun i x hx => by simp at hx)
    · obtain ⟨col, h4, h5⟩ := Res.bind_eq_ok h3
      cases h5
      obtain ⟨x, c, ety, fr, ho, hx, hv⟩ := colA_spec (e := e) R hb' h4 hjn hj hp
      refine ⟨x, ?_, hv⟩
      have h6 : w.cell? ⟨p.1, p.2.1 + (off + j * es), none⟩ = some x := by rw [cell_at ho]; exact hx
      simp [Instr.loadAt, Instr.sureAddr, loadVar, run_isAgg hi, h2, h6]
  · cases hr

theorem wrap_i64_nat {n : Nat} (h : n ≤ 140737488355328) : IntKind.i64.wrap (n : Int) = n := wrap_small _ (by omega) (by omega)

/-! ### New blocks -/
theorem blkOf_BR {p : Loc} {opn : Bool} {e : Nat} {cs : List AV} {xs : Array Value} (hv : VRs ρ μ cs xs.toList) (hp : p.2.1 = 0) (hp2 : p.2.2 = xs.size) : BR ρ μ p (blkOf opn e cs) (.cells xs e (0, 0)) := by
  have hl := VRs_size hv
  refine ⟨xs, e, (0, 0), rfl, hp2, by omega, fun _ => ⟨hp, rfl, rfl, fun _ => hl⟩, ?_⟩
  intro j v hj h
  rw [T.get_puts, if_pos (by omega), Nat.sub_zero] at h
  obtain ⟨x, h1, h2⟩ := VRs_get hv _ _ h
  rw [Array.getElem?_toList] at h1
  exact ⟨x, by rw [hp, Nat.zero_add]; exact h1, h2⟩

theorem repA_get : ∀ (n : Nat) (z : List AV) (j : Nat), (repA z n).length = n * z.length ∧ (j < n * z.length → (repA z n)[j]? = z[j % z.length]?) := by
  intro n z
  induction n with
  | zero => intro j; simp [repA]
  | succ n ih =>
    intro j
    have hl : (repA z (n + 1)).length = (n + 1) * z.length := by simp [repA, (ih 0).1, Nat.add_mul, Nat.add_comm]
    refine ⟨hl, fun hj => ?_⟩
    simp only [repA]
    by_cases h : j < z.length
    · rw [List.getElem?_append_left h, Nat.mod_eq_of_lt h]
    · have h : z.length ≤ j := Nat.le_of_not_lt h
      rw [List.getElem?_append_right h, (ih (j - z.length)).2 (by rw [Nat.add_mul] at hj; omega)]
      congr 1
      exact (Nat.mod_eq_sub_mod h).symm

theorem repA_VRs {n m : Nat} {z : List AV} {zc : Array Value} (hz : VRs ρ μ z zc.toList) (hm : m = n * z.length) : VRs ρ μ (repA z n) ((Array.range m).map (fun i => zc[i % zc.size]!)).toList := by
  have hl := VRs_size hz
  refine VRs_of_get (by simp [(repA_get n z 0).1, hm]) ?_
  intro i a v ha hv
  have hi : i < n * z.length := by rw [← (repA_get n z 0).1]; exact (List.getElem?_eq_some_iff.1 ha).1
  rw [(repA_get n z i).2 hi] at ha
  obtain ⟨x, h1, h2⟩ := VRs_get hz _ _ ha
  have hlt : i % zc.size < zc.size := by
    rw [← hl]
    exact Nat.mod_lt _ (Nat.pos_of_ne_zero (fun e => by rw [e] at hi; omega))
  simp only [Array.toList_map, Array.toList_range, List.getElem?_map, List.getElem?_range (hm ▸ hi), Option.map_some, Option.some.injEq] at hv
  rw [Array.getElem?_toList, hl] at h1
  rw [getElem!_pos zc _ hlt] at hv
  rw [Array.getElem?_eq_getElem hlt] at h1
  cases h1
  rw [← hv]; exact h2

/-- One of the operations that make a block: whatever number it gets. -/
theorem alloc_spec (hp : pc.holds ρ) {o : Oper} {ea : Operand → Res AV} {rv : Operand → Value} {b : Blk} {mk : Nat → AV} (he : EaR ρ μ o.op ea rv) (h : cls P pc ea o.op = .alloc (.ok (b, mk))) :
    ∃ c e v, (execOp rv o).run P w = .ok (.value v) (w.alloc (.cells c e)) ∧ b.own = true ∧
      ∀ μ' : Mu, μ.le μ' → ∀ id, μ' id = some (w.heap.size, 0, c.size) → BR ρ μ' (w.heap.size, 0, c.size) b (.cells c e) ∧ VR ρ μ' (mk id) v := by
  cases ho : o.op with
  | alloc e =>
    rw [ho] at h
    have h0 : Cls.alloc ((tdR P e).bind fun ti => .ok (blkOf false e ti.zero, fun id => .ptr id 0)) = .alloc (.ok (b, mk)) := h
    injection h0 with h0
    obtain ⟨ti, h1, h2⟩ := Res.bind_eq_ok h0
    cases h2
    obtain ⟨z, hz, hzr⟩ := run_zero (tdR_spec h1) w
    refine ⟨z.cells, e, .pointer (some ⟨w.heap.size, 0, none⟩), by simp [execOp, ho, Instr.alloc, hz, newVar, newRow], rfl, fun μ' _ id hid => ⟨blkOf_BR (hzr _ _) rfl rfl, ?_⟩⟩
    rw [VR]
    exact ⟨_, hid, rfl⟩
  | box e x =>
    rw [ho] at h he
    have h0 : Cls.alloc ((ea x).bind fun v => .ok (blkOf false e v.cells, fun id => .ptr id 0)) = .alloc (.ok (b, mk)) := h
    injection h0 with h0
    obtain ⟨a, h1, h2⟩ := Res.bind_eq_ok h0
    cases h2
    have hv := he x (by simp [Op.operands]) a h1
    refine ⟨(rv x).cells, e, .pointer (some ⟨w.heap.size, 0, none⟩), by simp [execOp, ho, Instr.box, newVar, newRow], rfl, fun μ' hle id hid => ⟨blkOf_BR (VRs_mono hle (VR_cells hv)) rfl rfl, ?_⟩⟩
    rw [VR]
    exact ⟨_, hid, rfl⟩
  | buildSlice t n parts =>
    rw [ho] at h he
    have h0 : Cls.alloc ((partsA ea parts.toList).bind (aBuildSlice P t n)) = .alloc (.ok (b, mk)) := h
    injection h0 with h0
    obtain ⟨ps, h1, h2⟩ := Res.bind_eq_ok h0
    have h3 := partsA_spec (ρ := ρ) (μ := μ) (rv := rv) (fun x hx a h => he x.2 (by simp only [Op.operands, List.mem_toArray]; exact List.mem_map_of_mem hx) a h) h1
    unfold aBuildSlice at h2
    obtain ⟨ti, h4, h5⟩ := Res.bind_eq_ok h2
    split at h5
    · rename_i e hd
      obtain ⟨te, h6, h7⟩ := Res.bind_eq_ok h5
      rcases cond_eq h7 with ⟨h8, h9⟩ | ⟨_, h9⟩
      · split at h9
        · rename_i cs hcs
          cases h9
          simp only [Bool.and_eq_true] at h8
          have e1 : n * te.size ≤ 16777216 := by simpa using h8.1
          have e2 : 1 ≤ te.size := by simpa using h8.2.1
          have e3 := beq_eq h8.2.2
          obtain ⟨z, hz, hzr⟩ := run_zero (tdR_spec h6) w
          have hzl : VRs ρ μ te.zero z.cells.toList := hzr _ _
          have hrep : VRs ρ μ (repA te.zero n) ((Array.range (n * te.size)).map (fun i => (if n * te.size = 0 then #[] else z.cells)[i % (if n * te.size = 0 then #[] else z.cells).size]!)).toList := by
            by_cases h0 : n * te.size = 0
            · have : n = 0 := by rcases Nat.mul_eq_zero.1 h0 with h | h <;> omega
              subst this
              simp [repA, VRs_nil]
            · rw [if_neg h0]
              exact repA_VRs hzl (by rw [e3])
          obtain ⟨ys, h10, h11⟩ := fillA_spec (pl' := fun i => some (i * te.size, te.size)) (fun i x hx => hx) h3 hrep hcs
          have hlen : ys.size = n * te.size := by
            have := VRs_size h11
            rw [fillA_length hcs, (repA_get n te.zero 0).1, e3] at this
            exact this.symm
          refine ⟨ys, e, .slice (some ⟨w.heap.size, 0, none⟩) n n, ?_, rfl, fun μ' hle id hid => ⟨blkOf_BR (VRs_mono hle h11) rfl rfl, ?_⟩⟩
          · have hlim : ¬ (n * te.size > 2 ^ 24) := by simp; omega
            by_cases h0 : n * te.size = 0
            · simp only [h0, if_true] at h10
              simp at h10
              simp [execOp, ho, Instr.buildSlice, run_und (td_slc (tdR_spec h4) hd), run_size (tdR_spec h6), h0, h10, newRow]
            · simp only [h0, if_false] at h10
              simp [execOp, ho, Instr.buildSlice, run_und (td_slc (tdR_spec h4) hd), run_size (tdR_spec h6), h0, hz, hlim, h10, newRow]
          · rw [VR]
            exact ⟨_, n, hid, rfl, fun _ => rfl, Nat.le_refl _, Nat.le_refl _, by simp only; omega⟩
        · cases h9
      · cases h9
    · cases h5
  | makeSlice t l c =>
    rw [ho] at h he
    have h0 : Cls.alloc ((ea l).bind fun l => (ea c).bind fun c => (asI pc l).bind fun l => (asI pc c).bind fun c => aMakeSlice P t l c) = .alloc (.ok (b, mk)) := h
    injection h0 with h0
    obtain ⟨la, h1, h2⟩ := Res.bind_eq_ok h0
    obtain ⟨ca, h3, h4⟩ := Res.bind_eq_ok h2
    obtain ⟨⟨lk, le⟩, h5, h6⟩ := Res.bind_eq_ok h4
    obtain ⟨⟨ck, ce⟩, h7, h8⟩ := Res.bind_eq_ok h6
    have hl := asI_spec hp (he l (by simp [Op.operands]) la h1) h5
    have hc := asI_spec hp (he c (by simp [Op.operands]) ca h3) h7
    unfold aMakeSlice at h8
    obtain ⟨ti, h9, h10⟩ := Res.bind_eq_ok h8
    split at h10
    · rename_i e l' c' hd q1 q2
      cases q1; cases q2
      obtain ⟨te, h11, h12⟩ := Res.bind_eq_ok h10
      rcases cond_eq h12 with ⟨h13, h14⟩ | ⟨_, h14⟩
      · cases h14
        simp only [Bool.and_eq_true] at h13
        have e1 : l' ≤ c' := by simpa using h13.1
        have e2 : c' * te.bytes ≤ 140737488355328 := by simpa using h13.2.1
        have e3 : c' ≤ 140737488355328 := by simpa using h13.2.2.1
        have e4 : 1 ≤ te.size := by simpa using h13.2.2.2.1
        have e5 := beq_eq h13.2.2.2.2
        obtain ⟨z, hz, hzr⟩ := run_zero (tdR_spec h11) w
        have hzl : VRs ρ μ te.zero z.cells.toList := hzr _ _
        have hrep : VRs ρ μ (repA te.zero c') ((Array.range (c' * te.size)).map (fun i => (if c' * te.size = 0 then #[] else z.cells)[i % (if c' * te.size = 0 then #[] else z.cells).size]!)).toList := by
          by_cases h0 : c' * te.size = 0
          · have : c' = 0 := by rcases Nat.mul_eq_zero.1 h0 with h | h <;> omega
            subst this
            simp [repA, VRs_nil]
          · rw [if_neg h0]
            exact repA_VRs hzl (by rw [e5])
        refine ⟨_, e, .slice (some ⟨w.heap.size, 0, none⟩) l' c', ?_, rfl, fun μ' hle id hid => ⟨blkOf_BR (VRs_mono hle hrep) rfl rfl, ?_⟩⟩
        · obtain ⟨i, d, zz, g1, g2, g3, g4, g5, g6, g7⟩ := tinfo_spec (tdR_spec h11)
          have w1 : IntKind.i64.wrap (c' : Int) = c' := wrap_i64_nat e3
          have w2 : IntKind.i64.wrap (l' : Int) = l' := wrap_i64_nat (Nat.le_trans e1 e3)
          rw [g6] at e2
          have b1 : ¬ ((i.bytes : Int) * (c' : Int) > 2 ^ 48) := by
            rw [← Int.natCast_mul, Nat.mul_comm]; simp; omega
          have b2 : ¬ ((l' : Int) > (c' : Int)) := by omega
          have b3 : ¬ ((c' : Int) < 0) := by omega
          have b4 : ¬ ((l' : Int) < 0) := by omega
          have ti' : (typeInfo e).run P w = .ok i w := by simp [typeInfo, g1]
          have c1 : ¬ ((281474976710656 : Int) < (i.bytes : Int) * (c' : Int)) := by simpa using b1
          have c2 : ¬ ((c' : Int) < (l' : Int)) := b2
          simp only [execOp, ho, hl, hc, SE.den, Int.ofNat_eq_natCast, Instr.makeSlice, Sem.run_bind, run_und (td_slc (tdR_spec h9) hd), Result.andThen_ok, asInt, asIntOf, Sem.run_pure, ti', w1, w2]
          by_cases hz0 : c' * te.size = 0 <;> simp [c1, c2, b3, b4, run_size (tdR_spec h11), hz, newRow, hz0]
        · rw [VR]
          exact ⟨_, c', hid, rfl, fun _ => rfl, Nat.le_refl _, e1, by simp⟩
      · cases h14
    · cases h10
  | call c =>
    rw [ho] at h
    have h0 : clsCall P pc ea c = .alloc (.ok (b, mk)) := h
    unfold clsCall at h0
    split at h0
    · unfold clsB at h0; split at h0 <;> cases h0
    · cases h0
  | convert s d x =>
    rw [ho] at h
    have h0 : clsConv P pc ea s d x = .alloc (.ok (b, mk)) := h
    unfold clsConv at h0
    rcases cond_eq h0 with ⟨_, h1⟩ | ⟨_, h1⟩ <;> cases h1
  | next it str => rw [ho] at h; cases str <;> cases h
  | _ => rw [ho] at h; cases h

end
end Go.Ev
