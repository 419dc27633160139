/- VexBack answers 'true' in each case; no conditions. -/
import Derived.Test.YtlngklpiapbpmaaVxH
set_option linter.unusedSimpArgs false
set_option linter.unusedVariables false
namespace Go.Proofs.Ytlngklpiapbpmaa
open Go.Ev
namespace Ev
section
variable {ρ : Env}

theorem or_zero {x b w : Int} (hx : x = 0 ∨ x = 1) (hb : b = 0 ∨ b = 1) (hw : w = 0 ∨ w = 1) (h : bitOp .or .i64 (bitOp .or .i64 x b) w = 0) : x = 0 ∧ b = 0 ∧ w = 0 := by
  rcases hx with rfl | rfl <;> rcases hb with rfl | rfl <;> rcases hw with rfl | rfl <;> first
    | exact ⟨rfl, rfl, rfl⟩
    | (exfalso; revert h; decide)

theorem inB_holds {e : SE} (h : 0 ≤ e.den ρ ∧ e.den ρ ≤ 255) : PC.holds ρ (inB e) := by
  unfold inB
  exact holds_cons.2 ⟨decide_eq_true h.1, holds_cons.2 ⟨decide_eq_true h.2, PC.holds_nil⟩⟩
theorem rng_holds {i : Nat} (h : 0 ≤ ρ.v i ∧ ρ.v i ≤ 255) : PC.holds ρ (rng i) := by
  unfold rng
  exact holds_cons.2 ⟨decide_eq_true h.1, holds_cons.2 ⟨decide_eq_true h.2, PC.holds_nil⟩⟩
theorem eq_holds {a b : SE} {l : PC} (h : a.den ρ = b.den ρ) (hl : PC.holds ρ l) : PC.holds ρ ((.eq a b, true) :: l) := holds_cons.2 ⟨by simp only [SB.den]; rw [h]; exact beq_self_eq_true _, hl⟩
theorem ne_holds {a b : SE} {l : PC} (h : a.den ρ ≠ b.den ρ) (hl : PC.holds ρ l) : PC.holds ρ ((.eq a b, false) :: l) := holds_cons.2 ⟨by simp only [SB.den]; exact beq_eq_false_iff_ne.2 h, hl⟩

theorem GoodV.of {b : Nat} {z : Nat → Int} (g : Good z) (hz : ∀ i, i < 8 → ρ.v (b + i) = z i) (hf : ∀ x, ρ.fn 5 [x] = ppI x) : GoodV ρ b := by
  refine ⟨?_, ?_, ?_, ?_, ?_, ?_, ?_, ?_, ?_, ?_, hf⟩
  · have := hz 0 (by decide); rw [Nat.add_zero] at this; rw [this]; exact g.r
  · rw [hz 1 (by decide)]; exact g.x
  · rw [hz 2 (by decide)]; exact g.b
  · rw [hz 3 (by decide)]; exact g.m1
  · rw [hz 3 (by decide)]; exact g.m3
  · rw [hz 4 (by decide)]; exact g.w
  · rw [hz 5 (by decide)]; exact g.v0
  · rw [hz 5 (by decide)]; exact g.v1
  · rw [hz 6 (by decide)]; exact g.l
  · rw [hz 7 (by decide)]; exact g.p

theorem goodI_congr {z z' : Nat → Int} (h : ∀ i, i < 8 → z i = z' i) : goodI z = goodI z' := by
  have key : ∀ {z z' : Nat → Int}, (∀ i, i < 8 → z i = z' i) → goodI z = true → goodI z' = true := by
    intro z z' h hz
    have g := goodI_iff.1 hz
    refine goodI_iff.2 ⟨?_, ?_, ?_, ?_, ?_, ?_, ?_, ?_, ?_, ?_⟩
    · rw [← h 0 (by decide)]; exact g.r
    · rw [← h 1 (by decide)]; exact g.x
    · rw [← h 2 (by decide)]; exact g.b
    · rw [← h 3 (by decide)]; exact g.m1
    · rw [← h 3 (by decide)]; exact g.m3
    · rw [← h 4 (by decide)]; exact g.w
    · rw [← h 5 (by decide)]; exact g.v0
    · rw [← h 5 (by decide)]; exact g.v1
    · rw [← h 6 (by decide)]; exact g.l
    · rw [← h 7 (by decide)]; exact g.p
  cases h1 : goodI z with
  | true => exact (key h h1).symm
  | false =>
    cases h2 : goodI z' with
    | false => rfl
    | true => rw [key (fun i hi => (h i hi).symm) h2] at h1; cases h1

/-- What the fields of v say. -/
def fV : List SE := (List.range 8).map fun i => vr (200 + i)
theorem fV_den {i : Nat} (h : i < 8) : (fV.map (SE.den ρ)).getD i 0 = ρ.v (200 + i) := by
  have : i = 0 ∨ i = 1 ∨ i = 2 ∨ i = 3 ∨ i = 4 ∨ i = 5 ∨ i = 6 ∨ i = 7 := by omega
  rcases this with rfl | rfl | rfl | rfl | rfl | rfl | rfl | rfl <;> rfl

theorem seg1_case (hf : ∀ x, ρ.fn 5 [x] = ppI x) (ei : Bool) {n : Nat} (h0 : 0 < n → 0 ≤ ρ.v 0 ∧ ρ.v 0 ≤ 255) :
    ∃ k, k ∈ [0, 1, 2, 3] ∧ PC.holds ρ (vPC ei k) ∧ HooksOK Try.prog ρ (XVk Try.prog ei k n) (vPC ei k) := by
  by_cases hg : goodI (fun i => (fV.map (SE.den ρ)).getD i 0) = true
  · have g : GoodV ρ 200 := GoodV.of (goodI_iff.1 hg) (fun i hi => (fV_den hi).symm) hf
    have ok : ∀ {k : Nat}, Nat.beq k 0 = false → PC.holds ρ (vPC ei k) → (∀ x ∈ vRE ei k n, reOK ρ x) → HooksOK Try.prog ρ (XVk Try.prog ei k n) (vPC ei k) := by
      intro k hk hp hre
      unfold XVk
      rw [hk]
      exact XV_ok (fs := fV) hp hf rfl hg hre
    have hw4 : (vr 204).den ρ = 0 ∨ (vr 204).den ρ = 1 := g.w
    have wd : (bif ei then li 0 else vr 204 : SE).den ρ = 0 ∨ (bif ei then li 0 else vr 204 : SE).den ρ = 1 := by
      cases ei with
      | false => exact g.w
      | true => exact .inl rfl
    have e20 := g.e2 (hd := li 0) (t := 0) (.inl rfl) rfl
    have e21 := g.e2 (hd := li 16) (t := 1) (.inr rfl) rfl
    have q0 := thr_eq g.r g.x g.bb g.m1 g.m3 (.inl rfl) g.v0 g.v1 g.l g.p g.e1 e20
    have q1 := thr_eq g.r g.x g.bb g.m1 g.m3 (.inr rfl) g.v0 g.v1 g.l g.p g.e1 e21
    have hei : PC.holds ρ (bif ei then (.eq (e2 200 (li 0)) (e2 200 (li 16)), false) :: (inB (e2 200 (li 0)) ++ inB (e2 200 (li 16))) else []) := by
      cases ei with
      | false => exact PC.holds_nil
      | true => exact ne_holds (by rw [e20, e21]; omega) (holds_append.2 ⟨inB_holds ⟨q0.2.2.2.2.1, q0.2.2.2.2.2⟩, inB_holds ⟨q1.2.2.2.2.1, q1.2.2.2.2.2⟩⟩)
    have thr : ∀ x ∈ (bif ei then [vThr (li 0) (li 0), vThr (li 16) (li 1), vCut] else [vThr (hW (vr 204)) (vr 204), vCut]), reOK ρ x := by
      cases ei with
      | true =>
        intro x hx
        simp only [cond_true, List.mem_cons, List.mem_nil_iff, or_false] at hx
        rcases hx with rfl | rfl | rfl
        · exact thr_re g (.inl rfl) rfl
        · exact thr_re g (.inr rfl) rfl
        · exact cut_re g
      | false =>
        intro x hx
        simp only [cond_false, List.mem_cons, List.mem_nil_iff, or_false] at hx
        rcases hx with rfl | rfl
        · exact thr_re g hw4 g.hw
        · exact cut_re g
    by_cases hor : (orW 200 (bif ei then li 0 else vr 204)).den ρ = 0
    · obtain ⟨z1, z2, z3⟩ := or_zero g.x g.bb wd (by simpa only [orW, SE.den] using hor)
      by_cases hm : ρ.v 203 = 1
      · refine ⟨1, by decide, ?_⟩
        have hp : PC.holds ρ (vPC ei 1) := by
          unfold vPC
          exact holds_append.2 ⟨eq_holds hor (holds_cons.2 ⟨decide_eq_true (show (1 : Int) ≤ ρ.v 203 by omega), holds_cons.2 ⟨decide_eq_true (show ρ.v 203 ≤ (1 : Int) by omega), PC.holds_nil⟩⟩), hei⟩
        refine ⟨hp, ok rfl hp ?_⟩
        intro x hx
        cases ei with
        | true =>
          rcases List.mem_append.1 hx with hx | hx
          · exact two_re g z1 z2 hm rfl h0 x hx
          · exact thr x hx
        | false =>
          rcases List.mem_append.1 hx with hx | hx
          · exact two_re g z1 z2 hm z3 h0 x hx
          · exact thr x hx
      · refine ⟨2, by decide, ?_⟩
        have hp : PC.holds ρ (vPC ei 2) := by
          unfold vPC
          exact holds_append.2 ⟨eq_holds hor (ne_holds hm PC.holds_nil), hei⟩
        refine ⟨hp, ok rfl hp ?_⟩
        intro x hx
        cases ei <;> exact thr x hx
    · refine ⟨3, by decide, ?_⟩
      have hp : PC.holds ρ (vPC ei 3) := by
        unfold vPC
        exact holds_append.2 ⟨ne_holds hor PC.holds_nil, hei⟩
      refine ⟨hp, ok rfl hp ?_⟩
      intro x hx
      cases ei <;> exact thr x hx
  · refine ⟨0, by decide, PC.holds_nil, ?_⟩
    exact XV_ok (fs := fV) (l := []) PC.holds_nil hf rfl (by simpa using hg) (fun x hx => by cases hx)

/-- What vex.Read tells of the bytes. -/
def rdOf (ρ : Env) (n : Nat) : List Int × Int × Int := if n = 0 then (zero8, 0, 9) else rdF (min n 3) (ρ.v 0) (ρ.v 1) (ρ.v 2)

theorem seg2_case (hf : ∀ x, ρ.fn 5 [x] = ppI x) (ei : Bool) {n : Nat} (hb : ∀ i, i < n → i < 3 → 0 ≤ ρ.v i ∧ ρ.v i ≤ 255) (hz : ∀ i, i < 8 → ρ.v (210 + i) = (rdOf ρ n).1.getD i 0) (he : ρ.v 209 = (rdOf ρ n).2.2) :
    ∃ t k, k ∈ (bif Nat.ble 3 n then [0, 1, 2, 3, 4] else bif Nat.beq n 2 then [0, 1] else [0]) ∧ PC.holds ρ (bPC ei t k n) ∧ HooksOK Try.prog ρ (XBk Try.prog ei t k n) (bPC ei t k n) := by
  have memE : ∀ {t : Bool} {k : Nat}, (0 < n → VR ρ (fun _ => none) (bRes ei t k) (rdV (rdF (min n 3) (ρ.v 0) (ρ.v 1) (ρ.v 2)))) → (∀ μ v, VR ρ (fun _ => none) (bRes ei t k) v → VR ρ μ (bRes ei t k) v) → ∀ x ∈ bRE ei t k n, reOK ρ x := by
    intro t k h hμ x hx
    unfold bRE at hx
    rcases Nat.lt_or_ge n 3 with h3 | h3
    · have h3b : Nat.ble 3 n = false := by
        cases hb : Nat.ble 3 n with
        | false => rfl
        | true => have : 3 ≤ n := by simpa using hb
                  omega
      have hn : n = 0 ∨ n = 1 ∨ n = 2 := by omega
      rcases hn with rfl | rfl | rfl
      · cases hx
      · rw [h3b] at hx
        obtain rfl := List.mem_singleton.1 (show x ∈ [(true, 1, [vr 0], bRes ei t k)] from hx)
        refine ⟨.inl rfl, .inl ⟨rfl, rfl⟩, ?_, fun μ => hμ μ _ (h (by decide))⟩
        intro e he
        obtain rfl := List.mem_singleton.1 he
        exact hb 0 (by decide) (by decide)
      · rw [h3b] at hx
        obtain rfl := List.mem_singleton.1 (show x ∈ [(true, 2, [vr 0, vr 1], bRes ei t k)] from hx)
        refine ⟨.inr (.inl rfl), .inl ⟨rfl, rfl⟩, ?_, fun μ => hμ μ _ ?_⟩
        · intro e he
          simp only [List.mem_cons, List.mem_nil_iff, or_false] at he
          rcases he with rfl | rfl
          · exact hb 0 (by decide) (by decide)
          · exact hb 1 (by decide) (by decide)
        · have := h (by decide)
          have e : rdF 2 (ρ.v 0) (ρ.v 1) 0 = rdF 2 (ρ.v 0) (ρ.v 1) (ρ.v 2) := by unfold rdF; simp
          show VR ρ (fun _ => none) (bRes ei t k) (rdV (rdF 2 (ρ.v 0) (ρ.v 1) 0))
          rw [e]; exact this
    · have h3b : Nat.ble 3 n = true := by simpa using h3
      have h0b : Nat.beq n 0 = false := by
        cases hb : Nat.beq n 0 with
        | false => rfl
        | true => have := beq_eq hb; omega
      rw [h3b, h0b] at hx
      obtain rfl := List.mem_singleton.1 (show x ∈ [(false, 3, [vr 0, vr 1, vr 2], bRes ei t k)] from hx)
      refine ⟨.inr (.inr rfl), .inr ⟨rfl, Nat.le_refl _⟩, ?_, fun μ => hμ μ _ ?_⟩
      · intro e he
        simp only [List.mem_cons, List.mem_nil_iff, or_false] at he
        rcases he with rfl | rfl | rfl
        · exact hb 0 (by omega) (by decide)
        · exact hb 1 (by omega) (by decide)
        · exact hb 2 (by omega) (by decide)
      · have := h (by omega)
        rw [Nat.min_eq_right h3] at this
        exact this
  have tup_μ : ∀ {l : List SE} {n e : SE} (μ : Mu) (v : Value), VR ρ (fun _ => none) (.tup [.agg (l.map i6), i6 n, i6 e]) v → VR ρ μ (.tup [.agg (l.map i6), i6 n, i6 e]) v := by
    intro l n e μ v h
    rw [VR_tup3 h]; exact VR_tup3_mk
  have res_μ : ∀ {t : Bool} {k : Nat} (μ : Mu) (v : Value), VR ρ (fun _ => none) (bRes ei t k) v → VR ρ μ (bRes ei t k) v := by
    intro t k μ v h
    unfold bRes at h ⊢
    cases h0 : Nat.beq k 0 with
    | true => rw [h0] at h; exact tup_μ μ v h
    | false =>
      rw [h0] at h
      cases h1 : Nat.beq k 1 with
      | true => rw [h1] at h; exact tup_μ μ v h
      | false => rw [h1] at h; exact tup_μ μ v h
  -- what is none
  have bad : (rdOf ρ n).1 = zero8 → (rdOf ρ n).2.1 = 0 → (rdOf ρ n).2.2 ≠ 0 → ∃ t k, k ∈ (bif Nat.ble 3 n then [0, 1, 2, 3, 4] else bif Nat.beq n 2 then [0, 1] else [0]) ∧ PC.holds ρ (bPC ei t k n) ∧ HooksOK Try.prog ρ (XBk Try.prog ei t k n) (bPC ei t k n) := by
    intro h1 h2 h3
    have hp : PC.holds ρ (bPC ei false 0 n) := ne_holds (by show ρ.v 209 ≠ 0; rw [he]; exact h3) PC.holds_nil
    refine ⟨false, 0, ?_, hp, ?_⟩
    · cases Nat.ble 3 n <;> cases Nat.beq n 2 <;> decide
    · refine XV_ok (fs := bF ei false 0) hp hf rfl ?_ (memE ?_ res_μ)
      · cases hg : goodI fun i => ((bF ei false 0).map (SE.den ρ)).getD i 0 with
        | false => rfl
        | true => have := (goodI_iff.1 hg).m1; exact absurd this (by show ¬ (1 : Int) ≤ 0; omega)
      · intro hn
        have : rdOf ρ n = rdF (min n 3) (ρ.v 0) (ρ.v 1) (ρ.v 2) := by unfold rdOf; rw [if_neg (by omega)]
        rw [← this]
        have e : rdOf ρ n = ([li 0, li 0, li 0, li 0, li 0, li 0, li 0, li 0].map (SE.den ρ), (li 0).den ρ, (vr 209).den ρ) := by
          refine Prod.ext h1 (Prod.ext h2 ?_)
          exact he.symm
        rw [e]
        exact VR_tup3_mk
  by_cases hn : n = 0
  · subst hn; exact bad rfl rfl (show (9 : Int) ≠ 0 by decide)
  have hrd : rdOf ρ n = rdF (min n 3) (ρ.v 0) (ρ.v 1) (ρ.v 2) := by unfold rdOf; rw [if_neg hn]
  have b0 := hb 0 (by omega) (by decide)
  by_cases ha : ρ.v 0 ≠ 196 ∧ ρ.v 0 ≠ 197
  · have e : rdOf ρ n = (zero8, 0, 4) := by rw [hrd]; unfold rdF; rw [if_pos ha]
    exact bad (by rw [e]) (by rw [e]) (by rw [e]; decide)
  by_cases h1 : n = 1
  · subst h1
    have e : rdOf ρ 1 = (zero8, 0, 9) := by rw [hrd]; unfold rdF; rw [if_neg ha, if_pos (by decide)]
    exact bad (by rw [e]) (by rw [e]) (by rw [e]; decide)
  have b1' := hb 1 (by omega) (by decide)
  have hmin1 : min n 3 ≠ 1 := by omega
  by_cases h197 : ρ.v 0 = 197
  · have e : rdOf ρ n = (twoI (ρ.v 1), 2, 0) := by rw [hrd]; unfold rdF; rw [if_neg ha, if_neg hmin1, if_pos h197]
    obtain ⟨g, k1, k2, k3, k4, k5⟩ := two_good b1'.1 b1'.2
    have hz' : ∀ i, i < 8 → ρ.v (210 + i) = (twoI (ρ.v 1)).getD i 0 := by intro i hi; rw [hz i hi, e]
    have gv : GoodV ρ 210 := GoodV.of g hz' hf
    have e0 : (e0' 210).den ρ = ρ.v 1 := by
      rw [gv.e0, hz' 5 (by decide), hz' 6 (by decide), hz' 7 (by decide)]
      have := hz' 0 (by decide)
      rw [Nat.add_zero] at this
      rw [this]; exact k1.symm
    have hp : PC.holds ρ (bPC ei false 1 n) := by
      show PC.holds ρ (Ev.e0 197 true :: (.eq (e0' 210) (vr 1), true) :: (rng 0 ++ (rng 1 ++ inB (e0' 210))))
      exact eq_holds h197 (eq_holds e0 (holds_append.2 ⟨rng_holds b0, holds_append.2 ⟨rng_holds b1', inB_holds (by rw [e0]; exact b1')⟩⟩))
    have fs : (bF ei false 1).map (SE.den ρ) = twoI (ρ.v 1) := by
      show [ρ.v 210, 0, 0, 1, 0, ρ.v 215, ρ.v 216, ρ.v 217] = _
      have := hz' 0 (by decide)
      rw [Nat.add_zero] at this
      rw [this, hz' 5 (by decide), hz' 6 (by decide), hz' 7 (by decide)]; rfl
    refine ⟨false, 1, ?_, hp, ?_⟩
    · have : n = 2 ∨ 3 ≤ n := by omega
      rcases this with rfl | h3
      · decide
      · rw [show Nat.ble 3 n = true by simpa using h3]; simp
    · refine XV_ok (fs := bF ei false 1) hp hf rfl ?_ (memE ?_ res_μ)
      · rw [fs]; exact goodI_iff.2 g
      · intro _
        rw [← hrd, e, ← fs]
        exact VR_tup3_mk
  have h196 : ρ.v 0 = 196 := by
    by_cases h : ρ.v 0 = 196
    · exact h
    · exact absurd ⟨h, h197⟩ ha
  by_cases hmid : (ρ.v 1).tmod 32 < 1 ∨ 3 < (ρ.v 1).tmod 32
  · have e : rdOf ρ n = (zero8, 0, 4) := by rw [hrd]; unfold rdF; rw [if_neg ha, if_neg hmin1, if_neg h197, if_pos hmid]
    exact bad (by rw [e]) (by rw [e]) (by rw [e]; decide)
  by_cases h2 : n = 2
  · subst h2
    have e : rdOf ρ 2 = (zero8, 0, 9) := by rw [hrd]; unfold rdF; rw [if_neg ha, if_neg hmin1, if_neg h197, if_neg hmid, if_pos (by decide)]
    exact bad (by rw [e]) (by rw [e]) (by rw [e]; decide)
  have h3 : 3 ≤ n := by omega
  have b2' := hb 2 (by omega) (by decide)
  have e : rdOf ρ n = (thrI (ρ.v 1) (ρ.v 2), 3, 0) := by rw [hrd]; unfold rdF; rw [if_neg ha, if_neg hmin1, if_neg h197, if_neg hmid, if_neg (by omega)]
  obtain ⟨g, k1, k2⟩ := thr_good b1'.1 b1'.2 b2'.1 b2'.2 (by omega) (by omega)
  have hz' : ∀ i, i < 8 → ρ.v (210 + i) = (thrI (ρ.v 1) (ρ.v 2)).getD i 0 := by intro i hi; rw [hz i hi, e]
  have gv : GoodV ρ 210 := GoodV.of g hz' hf
  have z0 : ρ.v 210 = (thrI (ρ.v 1) (ρ.v 2)).getD 0 0 := by have := hz' 0 (by decide); rwa [Nat.add_zero] at this
  have E1d : (e1 210).den ρ = ρ.v 1 := by
    rw [gv.e1, z0, hz' 1 (by decide), hz' 2 (by decide), hz' 3 (by decide)]; exact k1.symm
  have E2d : ∀ {hd : SE}, hd.den ρ = 16 * ρ.v 214 → (e2 210 hd).den ρ = ρ.v 2 := by
    intro hd hh
    rw [gv.e2 gv.w hh, hz' 4 (by decide), hz' 5 (by decide), hz' 6 (by decide), hz' 7 (by decide)]; exact k2.symm
  have E2a := gv.e2 (hd := li 0) (t := 0) (.inl rfl) rfl
  have E2b := gv.e2 (hd := li 16) (t := 1) (.inr rfl) rfl
  have q0 := thr_eq gv.r gv.x gv.bb gv.m1 gv.m3 (.inl rfl) gv.v0 gv.v1 gv.l gv.p gv.e1 E2a
  have q1 := thr_eq gv.r gv.x gv.bb gv.m1 gv.m3 (.inr rfl) gv.v0 gv.v1 gv.l gv.p gv.e1 E2b
  obtain ⟨t, ht⟩ : ∃ t : Bool, ρ.v 214 = bif t then 1 else 0 := gv.w.elim (fun h => ⟨false, h⟩) (fun h => ⟨true, h⟩)
  have fs : ∀ {k : Nat}, Nat.beq k 0 = false → Nat.beq k 1 = false → (bF ei t k).map (SE.den ρ) = thrI (ρ.v 1) (ρ.v 2) := by
    intro k hk0 hk1
    have : (bW ei t).den ρ = ρ.v 214 := by
      cases ei with
      | false => rfl
      | true => rw [ht]; cases t <;> rfl
    unfold bF
    rw [hk0, hk1]
    show [ρ.v 210, ρ.v 211, ρ.v 212, ρ.v 213, (bW ei t).den ρ, ρ.v 215, ρ.v 216, ρ.v 217] = _
    rw [this, z0, hz' 1 (by decide), hz' 2 (by decide), hz' 3 (by decide), hz' 4 (by decide), hz' 5 (by decide), hz' 6 (by decide), hz' 7 (by decide)]
    rfl
  have ok : ∀ {k : Nat}, k ∈ [2, 3, 4] → PC.holds ρ (bPC ei t k n) → ∃ t k, k ∈ (bif Nat.ble 3 n then [0, 1, 2, 3, 4] else bif Nat.beq n 2 then [0, 1] else [0]) ∧ PC.holds ρ (bPC ei t k n) ∧ HooksOK Try.prog ρ (XBk Try.prog ei t k n) (bPC ei t k n) := by
    intro k hk hp
    have hk' : k = 2 ∨ k = 3 ∨ k = 4 := by simpa using hk
    have hk0 : Nat.beq k 0 = false := by rcases hk' with rfl | rfl | rfl <;> rfl
    have hk1 : Nat.beq k 1 = false := by rcases hk' with rfl | rfl | rfl <;> rfl
    refine ⟨t, k, ?_, hp, ?_⟩
    · rw [show Nat.ble 3 n = true by simpa using h3]
      rcases hk' with rfl | rfl | rfl <;> simp
    · unfold XBk
      rw [hk0]
      refine XV_ok (fs := bF ei t k) hp hf ?_ ?_ (memE ?_ res_μ)
      · unfold bF; rw [hk0, hk1]; rfl
      · rw [fs hk0 hk1]; exact goodI_iff.2 g
      · intro _
        rw [← hrd, e, ← fs hk0 hk1]
        unfold bRes
        rw [hk0, hk1]
        exact VR_tup3_mk
  have rest : ∀ {l : PC}, PC.holds ρ l → PC.holds ρ (l ++ (Ev.e0 196 true :: (.eq (e1 210) (vr 1), true) :: (rng 0 ++ (rng 1 ++ (rng 2 ++ (inB (e1 210) ++
      (bif ei then (inB (e2 210 (li 0)) ++ (inB (e2 210 (li 16)) ++ (bif t then [(.eq (e2 210 (li 0)) (vr 2), false), (.eq (e2 210 (li 16)) (vr 2), true)] else [(.eq (e2 210 (li 0)) (vr 2), true)])))
       else (inB (e2 210 (hW (vr 214))) ++ [(.eq (e2 210 (hW (vr 214))) (vr 2), true)])))))))) := by
    intro l hl
    refine holds_append.2 ⟨hl, eq_holds h196 (eq_holds E1d (holds_append.2 ⟨rng_holds b0, holds_append.2 ⟨rng_holds b1', holds_append.2 ⟨rng_holds b2', holds_append.2 ⟨inB_holds (by rw [E1d]; exact b1'), ?_⟩⟩⟩⟩))⟩
    cases ei with
    | false =>
      have := E2d (hd := hW (vr 214)) gv.hw
      exact holds_append.2 ⟨inB_holds (by rw [this]; exact b2'), eq_holds this PC.holds_nil⟩
    | true =>
      refine holds_append.2 ⟨inB_holds ⟨q0.2.2.2.2.1, q0.2.2.2.2.2⟩, holds_append.2 ⟨inB_holds ⟨q1.2.2.2.2.1, q1.2.2.2.2.2⟩, ?_⟩⟩
      cases t with
      | false => exact eq_holds (E2d (by rw [ht]; rfl)) PC.holds_nil
      | true =>
        have := E2d (hd := li 16) (by rw [ht]; rfl)
        exact ne_holds (by show _ ≠ ρ.v 2; rw [← this, E2a, E2b]; omega) (eq_holds this PC.holds_nil)
  by_cases hor : (orW 210 (bif ei then li 0 else vr 214)).den ρ = 0
  · by_cases hm : ρ.v 213 = 1
    · exact ok (k := 2) (by decide) (rest (eq_holds hor (holds_cons.2 ⟨decide_eq_true (show (1 : Int) ≤ ρ.v 213 by omega), holds_cons.2 ⟨decide_eq_true (show ρ.v 213 ≤ (1 : Int) by omega), PC.holds_nil⟩⟩)))
    · exact ok (k := 3) (by decide) (rest (eq_holds hor (ne_holds hm PC.holds_nil)))
  · exact ok (k := 4) (by decide) (rest (ne_holds hor PC.holds_nil))
end
end Ev
end Go.Proofs.Ytlngklpiapbpmaa
