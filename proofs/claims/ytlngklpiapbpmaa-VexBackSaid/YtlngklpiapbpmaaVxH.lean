/- VexBack answers 'true', whatever it is asked of: the cases put together; no conditions. -/
import Derived.Test.YtlngklpiapbpmaaVxF
import Derived.Test.YtlngklpiapbpmaaVxG1
import Derived.Test.YtlngklpiapbpmaaVxG2
import Derived.Test.YtlngklpiapbpmaaVxG3
import Derived.Test.YtlngklpiapbpmaaVxG4
import Derived.Test.YtlngklpiapbpmaaVxG5
set_option linter.unusedSimpArgs false
set_option linter.unusedVariables false
namespace Go.Proofs.Ytlngklpiapbpmaa
open Go.Ev
namespace Ev

/-! ### What three bytes say -/
theorem pre_pp {p : Int} (h : p = 0 ∨ p = 1 ∨ p = 2 ∨ p = 4) : preI (ppI p) = p ∧ 0 ≤ ppI p ∧ ppI p ≤ 3 := by rcases h with rfl | rfl | rfl | rfl <;> decide

theorem b01 {x : Int} (h : x = 0 ∨ x = 1) : 0 ≤ x ∧ x ≤ 1 := by rcases h with rfl | rfl <;> decide

theorem thr_eq {r x b m t v l p : Int} (hr : r = 0 ∨ r = 1) (hx : x = 0 ∨ x = 1) (hb : b = 0 ∨ b = 1) (h1 : 1 ≤ m) (h3 : m ≤ 3) (ht : t = 0 ∨ t = 1) (hv0 : 0 ≤ v) (hv1 : v ≤ 15) (hl : l = 0 ∨ l = 1) (hp : p = 0 ∨ p = 1 ∨ p = 2 ∨ p = 4) {c d : Int}
    (hc : c = 128 * (1 - r) + 64 * (1 - x) + 32 * (1 - b) + m) (hd : d = 128 * t + 8 * (15 - v) + 4 * l + ppI p) : thrI c d = [r, x, b, m, t, v, l, p] ∧ c.tmod 32 = m ∧ 0 ≤ c ∧ c ≤ 255 ∧ 0 ≤ d ∧ d ≤ 255 := by
  obtain ⟨e1, e2, e3⟩ := pre_pp hp
  clear hp
  replace hr := b01 hr; replace hx := b01 hx; replace hb := b01 hb; replace ht := b01 ht; replace hl := b01 hl
  have c0 : 0 ≤ c := by omega
  have d0 : 0 ≤ d := by omega
  have f1 : c.tdiv 128 = c / 128 := Int.tdiv_eq_ediv_of_nonneg c0
  have f2 : c.tdiv 64 = c / 64 := Int.tdiv_eq_ediv_of_nonneg c0
  have f3 : c.tdiv 32 = c / 32 := Int.tdiv_eq_ediv_of_nonneg c0
  have f4 : c.tmod 32 = c % 32 := Int.tmod_eq_emod_of_nonneg c0
  have f5 : d.tdiv 128 = d / 128 := Int.tdiv_eq_ediv_of_nonneg d0
  have f6 : d.tdiv 8 = d / 8 := Int.tdiv_eq_ediv_of_nonneg d0
  have f7 : d.tdiv 4 = d / 4 := Int.tdiv_eq_ediv_of_nonneg d0
  have f8 : d.tmod 4 = d % 4 := Int.tmod_eq_emod_of_nonneg d0
  have g2 : (c / 64).tmod 2 = c / 64 % 2 := Int.tmod_eq_emod_of_nonneg (by omega)
  have g3 : (c / 32).tmod 2 = c / 32 % 2 := Int.tmod_eq_emod_of_nonneg (by omega)
  have g6 : (d / 8).tmod 16 = d / 8 % 16 := Int.tmod_eq_emod_of_nonneg (by omega)
  have g7 : (d / 4).tmod 2 = d / 4 % 2 := Int.tmod_eq_emod_of_nonneg (by omega)
  refine ⟨?_, by rw [f4]; omega, by omega, by omega, by omega, by omega⟩
  unfold thrI
  rw [f1, f2, f3, f4, f5, f6, f7, f8, g2, g3, g6, g7]
  have k8 : d % 4 = ppI p := by omega
  rw [k8, e1]
  have k1 : 1 - c / 128 = r := by omega
  have k2 : 1 - c / 64 % 2 = x := by omega
  have k3 : 1 - c / 32 % 2 = b := by omega
  have k4 : c % 32 = m := by omega
  have k5 : d / 128 = t := by omega
  have k6 : 15 - d / 8 % 16 = v := by omega
  have k7 : d / 4 % 2 = l := by omega
  rw [k1, k2, k3, k4, k5, k6, k7]

theorem two_eq {r v l p : Int} (hr : r = 0 ∨ r = 1) (hv0 : 0 ≤ v) (hv1 : v ≤ 15) (hl : l = 0 ∨ l = 1) (hp : p = 0 ∨ p = 1 ∨ p = 2 ∨ p = 4) {c : Int}
    (hc : c = 128 * (1 - r) + 8 * (15 - v) + 4 * l + ppI p) : twoI c = [r, 0, 0, 1, 0, v, l, p] ∧ 0 ≤ c ∧ c ≤ 255 := by
  obtain ⟨e1, e2, e3⟩ := pre_pp hp
  clear hp
  replace hr := b01 hr; replace hl := b01 hl
  have c0 : 0 ≤ c := by omega
  have f1 : c.tdiv 128 = c / 128 := Int.tdiv_eq_ediv_of_nonneg c0
  have f2 : c.tdiv 8 = c / 8 := Int.tdiv_eq_ediv_of_nonneg c0
  have f3 : c.tdiv 4 = c / 4 := Int.tdiv_eq_ediv_of_nonneg c0
  have f8 : c.tmod 4 = c % 4 := Int.tmod_eq_emod_of_nonneg c0
  have g2 : (c / 8).tmod 16 = c / 8 % 16 := Int.tmod_eq_emod_of_nonneg (by omega)
  have g3 : (c / 4).tmod 2 = c / 4 % 2 := Int.tmod_eq_emod_of_nonneg (by omega)
  refine ⟨?_, by omega, by omega⟩
  unfold twoI
  rw [f1, f2, f3, f8, g2, g3]
  have k8 : c % 4 = ppI p := by omega
  rw [k8, e1]
  have k1 : 1 - c / 128 = r := by omega
  have k2 : 15 - c / 8 % 16 = v := by omega
  have k3 : c / 4 % 2 = l := by omega
  rw [k1, k2, k3]

theorem pp_mod {d : Int} : preI (d % 4) = 0 ∨ preI (d % 4) = 1 ∨ preI (d % 4) = 2 ∨ preI (d % 4) = 4 := by
  have : d % 4 = 0 ∨ d % 4 = 1 ∨ d % 4 = 2 ∨ d % 4 = 3 := by omega
  rcases this with h | h | h | h <;> rw [h] <;> decide
theorem pp_pre {d : Int} : ppI (preI (d % 4)) = d % 4 := by
  have : d % 4 = 0 ∨ d % 4 = 1 ∨ d % 4 = 2 ∨ d % 4 = 3 := by omega
  rcases this with h | h | h | h <;> rw [h] <;> rfl

/-- What is read may be, and is laid as it was. -/
theorem thr_good {c d : Int} (c0 : 0 ≤ c) (c1 : c ≤ 255) (d0 : 0 ≤ d) (d1 : d ≤ 255) (h1 : 1 ≤ c.tmod 32) (h3 : c.tmod 32 ≤ 3) :
    let z := fun i => (thrI c d).getD i 0
    Good z ∧ c = 128 * (1 - z 0) + 64 * (1 - z 1) + 32 * (1 - z 2) + z 3 ∧ d = 128 * z 4 + 8 * (15 - z 5) + 4 * z 6 + ppI (z 7) := by
  have f1 : c.tdiv 128 = c / 128 := Int.tdiv_eq_ediv_of_nonneg c0
  have f2 : c.tdiv 64 = c / 64 := Int.tdiv_eq_ediv_of_nonneg c0
  have f3 : c.tdiv 32 = c / 32 := Int.tdiv_eq_ediv_of_nonneg c0
  have f4 : c.tmod 32 = c % 32 := Int.tmod_eq_emod_of_nonneg c0
  have f5 : d.tdiv 128 = d / 128 := Int.tdiv_eq_ediv_of_nonneg d0
  have f6 : d.tdiv 8 = d / 8 := Int.tdiv_eq_ediv_of_nonneg d0
  have f7 : d.tdiv 4 = d / 4 := Int.tdiv_eq_ediv_of_nonneg d0
  have f8 : d.tmod 4 = d % 4 := Int.tmod_eq_emod_of_nonneg d0
  have g2 : (c / 64).tmod 2 = c / 64 % 2 := Int.tmod_eq_emod_of_nonneg (by omega)
  have g3 : (c / 32).tmod 2 = c / 32 % 2 := Int.tmod_eq_emod_of_nonneg (by omega)
  have g6 : (d / 8).tmod 16 = d / 8 % 16 := Int.tmod_eq_emod_of_nonneg (by omega)
  have g7 : (d / 4).tmod 2 = d / 4 % 2 := Int.tmod_eq_emod_of_nonneg (by omega)
  have e : thrI c d = [1 - c / 128, 1 - c / 64 % 2, 1 - c / 32 % 2, c % 32, d / 128, 15 - d / 8 % 16, d / 4 % 2, preI (d % 4)] := by
    unfold thrI
    rw [f1, f2, f3, f4, f5, f6, f7, f8, g2, g3, g6, g7]
  rw [f4] at h1 h3
  rw [e]
  refine ⟨⟨?_, ?_, ?_, h1, h3, ?_, ?_, ?_, ?_, pp_mod⟩, ?_, ?_⟩
  · show 1 - c / 128 = 0 ∨ 1 - c / 128 = 1; omega
  · show 1 - c / 64 % 2 = 0 ∨ 1 - c / 64 % 2 = 1; omega
  · show 1 - c / 32 % 2 = 0 ∨ 1 - c / 32 % 2 = 1; omega
  · show d / 128 = 0 ∨ d / 128 = 1; omega
  · show 0 ≤ 15 - d / 8 % 16; omega
  · show 15 - d / 8 % 16 ≤ 15; omega
  · show d / 4 % 2 = 0 ∨ d / 4 % 2 = 1; omega
  · show c = 128 * (1 - (1 - c / 128)) + 64 * (1 - (1 - c / 64 % 2)) + 32 * (1 - (1 - c / 32 % 2)) + c % 32; omega
  · show d = 128 * (d / 128) + 8 * (15 - (15 - d / 8 % 16)) + 4 * (d / 4 % 2) + ppI (preI (d % 4))
    rw [pp_pre]; omega
theorem two_good {c : Int} (c0 : 0 ≤ c) (c1 : c ≤ 255) :
    let z := fun i => (twoI c).getD i 0
    Good z ∧ c = 128 * (1 - z 0) + 8 * (15 - z 5) + 4 * z 6 + ppI (z 7) ∧ z 1 = 0 ∧ z 2 = 0 ∧ z 3 = 1 ∧ z 4 = 0 := by
  have f1 : c.tdiv 128 = c / 128 := Int.tdiv_eq_ediv_of_nonneg c0
  have f2 : c.tdiv 8 = c / 8 := Int.tdiv_eq_ediv_of_nonneg c0
  have f3 : c.tdiv 4 = c / 4 := Int.tdiv_eq_ediv_of_nonneg c0
  have f8 : c.tmod 4 = c % 4 := Int.tmod_eq_emod_of_nonneg c0
  have g2 : (c / 8).tmod 16 = c / 8 % 16 := Int.tmod_eq_emod_of_nonneg (by omega)
  have g3 : (c / 4).tmod 2 = c / 4 % 2 := Int.tmod_eq_emod_of_nonneg (by omega)
  have e : twoI c = [1 - c / 128, 0, 0, 1, 0, 15 - c / 8 % 16, c / 4 % 2, preI (c % 4)] := by
    unfold twoI
    rw [f1, f2, f3, f8, g2, g3]
  rw [e]
  refine ⟨⟨?_, .inl rfl, .inl rfl, by show (1 : Int) ≤ 1; omega, by show (1 : Int) ≤ 3; omega, .inl rfl, ?_, ?_, ?_, pp_mod⟩, ?_, rfl, rfl, rfl, rfl⟩
  · show 1 - c / 128 = 0 ∨ 1 - c / 128 = 1; omega
  · show 0 ≤ 15 - c / 8 % 16; omega
  · show 15 - c / 8 % 16 ≤ 15; omega
  · show c / 4 % 2 = 0 ∨ c / 4 % 2 = 1; omega
  · show c = 128 * (1 - (1 - c / 128)) + 8 * (15 - (15 - c / 8 % 16)) + 4 * (c / 4 % 2) + ppI (preI (c % 4))
    rw [pp_pre]; omega

section
variable {ρ : Env}
/-- Of the fields from variable b on. -/
structure GoodV (ρ : Env) (b : Nat) : Prop where
  r : ρ.v b = 0 ∨ ρ.v b = 1
  x : ρ.v (b + 1) = 0 ∨ ρ.v (b + 1) = 1
  bb : ρ.v (b + 2) = 0 ∨ ρ.v (b + 2) = 1
  m1 : 1 ≤ ρ.v (b + 3)
  m3 : ρ.v (b + 3) ≤ 3
  w : ρ.v (b + 4) = 0 ∨ ρ.v (b + 4) = 1
  v0 : 0 ≤ ρ.v (b + 5)
  v1 : ρ.v (b + 5) ≤ 15
  l : ρ.v (b + 6) = 0 ∨ ρ.v (b + 6) = 1
  p : ρ.v (b + 7) = 0 ∨ ρ.v (b + 7) = 1 ∨ ρ.v (b + 7) = 2 ∨ ρ.v (b + 7) = 4
  f : ∀ x, ρ.fn 5 [x] = ppI x

theorem GoodV.e1 {b : Nat} (g : GoodV ρ b) : (e1 b).den ρ = 128 * (1 - ρ.v b) + 64 * (1 - ρ.v (b + 1)) + 32 * (1 - ρ.v (b + 2)) + ρ.v (b + 3) := by
  have := E1_den (ρ := ρ) (r := vr b) (x := vr (b + 1)) (b := vr (b + 2)) (m := vr (b + 3)) (by simpa only [SE.den] using g.r) (by simpa only [SE.den] using g.x) (by simpa only [SE.den] using g.bb) (by simpa only [SE.den] using g.m1) (by simpa only [SE.den] using g.m3)
  show SE.den ρ (E1 (vr b) (vr (b + 1)) (vr (b + 2)) (vr (b + 3))) = _
  simpa only [SE.den] using this
theorem GoodV.e2 {b : Nat} (g : GoodV ρ b) {hd : SE} {t : Int} (ht : t = 0 ∨ t = 1) (hh : hd.den ρ = 16 * t) : (e2 b hd).den ρ = 128 * t + 8 * (15 - ρ.v (b + 5)) + 4 * ρ.v (b + 6) + ppI (ρ.v (b + 7)) := by
  have := E2_den g.f (v := vr (b + 5)) (l := vr (b + 6)) (p := vr (b + 7)) ht hh (by simpa only [SE.den] using g.v0) (by simpa only [SE.den] using g.v1) (by simpa only [SE.den] using g.l) (by simpa only [SE.den] using g.p)
  show SE.den ρ (E2 hd (vr (b + 5)) (vr (b + 6)) (vr (b + 7))) = _
  simpa only [SE.den] using this
theorem GoodV.e0 {b : Nat} (g : GoodV ρ b) : (e0' b).den ρ = 128 * (1 - ρ.v b) + 8 * (15 - ρ.v (b + 5)) + 4 * ρ.v (b + 6) + ppI (ρ.v (b + 7)) := by
  have := E0_den g.f (r := vr b) (v := vr (b + 5)) (l := vr (b + 6)) (p := vr (b + 7)) (by simpa only [SE.den] using g.r) (by simpa only [SE.den] using g.v0) (by simpa only [SE.den] using g.v1) (by simpa only [SE.den] using g.l) (by simpa only [SE.den] using g.p)
  show SE.den ρ (E0 (vr b) (vr (b + 5)) (vr (b + 6)) (vr (b + 7))) = _
  simpa only [SE.den] using this
theorem GoodV.hw {b : Nat} (g : GoodV ρ b) : (hW (vr (b + 4))).den ρ = 16 * ρ.v (b + 4) := by
  have := hW_den (ρ := ρ) (w := vr (b + 4)) (by simpa only [SE.den] using g.w)
  simpa only [SE.den] using this

theorem li_den (n : Nat) : (li n).den ρ = n := rfl

theorem thr_re (g : GoodV ρ 200) {hd w : SE} (hw : w.den ρ = 0 ∨ w.den ρ = 1) (hh : hd.den ρ = 16 * w.den ρ) : reOK ρ (vThr hd w) := by
  have h1 := g.e1
  have h2 := g.e2 hw hh
  obtain ⟨k1, k2, k3, k4, k5, k6⟩ := thr_eq g.r g.x g.bb g.m1 g.m3 hw g.v0 g.v1 g.l g.p h1 h2
  refine ⟨.inr (.inr rfl), .inr ⟨rfl, Nat.le_refl _⟩, ?_, fun μ => ?_⟩
  · intro e he
    simp only [vThr, List.mem_cons, List.mem_nil_iff, or_false] at he
    rcases he with rfl | rfl | rfl
    · rw [li_den]; decide
    · exact ⟨k3, k4⟩
    · exact ⟨k5, k6⟩
  · have e : rdF 3 196 ((e1 200).den ρ) ((e2 200 hd).den ρ) = ((fvW 200 w).map (SE.den ρ), (li 3).den ρ, (li 0).den ρ) := by
      unfold rdF
      rw [if_neg (by omega), if_neg (by omega), if_neg (by omega), if_neg (by rw [k2]; have := g.m1; have := g.m3; omega), if_neg (by omega), k1]
      rfl
    have := VR_tup3_mk (ρ := ρ) (μ := μ) (l := fvW 200 w) (n := li 3) (e := li 0)
    rw [← e] at this
    exact this
theorem cut_re (g : GoodV ρ 200) : reOK ρ vCut := by
  have h1 := g.e1
  have h2 := g.e2 (hd := li 0) (t := 0) (.inl rfl) rfl
  obtain ⟨k1, k2, k3, k4, k5, k6⟩ := thr_eq g.r g.x g.bb g.m1 g.m3 (.inl rfl) g.v0 g.v1 g.l g.p h1 h2
  refine ⟨.inr (.inl rfl), .inl ⟨rfl, rfl⟩, ?_, fun μ => ?_⟩
  · intro e he
    simp only [vCut, List.mem_cons, List.mem_nil_iff, or_false] at he
    rcases he with rfl | rfl
    · rw [li_den]; decide
    · exact ⟨k3, k4⟩
  · have e : rdF 2 196 ((e1 200).den ρ) 0 = (zero8, 0, 9) := by
      unfold rdF
      rw [if_neg (by omega), if_neg (by omega), if_neg (by omega), if_neg (by rw [k2]; have := g.m1; have := g.m3; omega), if_pos rfl]
    have := VR_tup3_mk (ρ := ρ) (μ := μ) (l := [li 0, li 0, li 0, li 0, li 0, li 0, li 0, li 0]) (n := li 0) (e := li 9)
    have e' : rdF 2 196 ((e1 200).den ρ) 0 = ([li 0, li 0, li 0, li 0, li 0, li 0, li 0, li 0].map (SE.den ρ), (li 0).den ρ, (li 9).den ρ) := e
    rw [← e'] at this
    exact this
theorem two_re (g : GoodV ρ 200) {n : Nat} (hx : ρ.v 201 = 0) (hb : ρ.v 202 = 0) (hm : ρ.v 203 = 1) {w : SE} (hw : w.den ρ = 0) (h0 : 0 < n → 0 ≤ ρ.v 0 ∧ ρ.v 0 ≤ 255) : ∀ x ∈ vTwo n w, reOK ρ x := by
  have h1 := g.e0
  obtain ⟨k1, k2, k3⟩ := two_eq g.r g.v0 g.v1 g.l g.p h1
  have fs : (fvW 200 w).map (SE.den ρ) = twoI ((e0' 200).den ρ) := by
    rw [k1]
    show [ρ.v 200, ρ.v 201, ρ.v 202, ρ.v 203, w.den ρ, ρ.v 205, ρ.v 206, ρ.v 207] = _
    rw [hx, hb, hm, hw]
  intro x hx
  unfold vTwo at hx
  cases hn : Nat.beq n 0 with
  | true =>
    rw [hn, cond_true] at hx
    obtain rfl := List.mem_singleton.1 hx
    refine ⟨.inr (.inl rfl), .inl ⟨rfl, rfl⟩, ?_, fun μ => ?_⟩
    · intro e he
      simp only [List.mem_cons, List.mem_nil_iff, or_false] at he
      rcases he with rfl | rfl
      · rw [li_den]; decide
      · exact ⟨k2, k3⟩
    · have e : rdF 2 197 ((e0' 200).den ρ) 0 = ((fvW 200 w).map (SE.den ρ), (li 2).den ρ, (li 0).den ρ) := by
        unfold rdF
        rw [if_neg (by omega), if_neg (by omega), if_pos rfl, fs]
        rfl
      have := VR_tup3_mk (ρ := ρ) (μ := μ) (l := fvW 200 w) (n := li 2) (e := li 0)
      rw [← e] at this
      exact this
  | false =>
    rw [hn, cond_false] at hx
    obtain rfl := List.mem_singleton.1 hx
    have hn0 : 0 < n := by
      cases n with
      | zero => cases hn
      | succ n => omega
    refine ⟨.inr (.inr rfl), .inr ⟨rfl, Nat.le_refl _⟩, ?_, fun μ => ?_⟩
    · intro e he
      simp only [List.mem_cons, List.mem_nil_iff, or_false] at he
      rcases he with rfl | rfl | rfl
      · rw [li_den]; decide
      · exact ⟨k2, k3⟩
      · exact h0 hn0
    · have e : rdF 3 197 ((e0' 200).den ρ) (ρ.v 0) = ((fvW 200 w).map (SE.den ρ), (li 2).den ρ, (li 0).den ρ) := by
        unfold rdF
        rw [if_neg (by omega), if_neg (by omega), if_pos rfl, fs]
        rfl
      have := VR_tup3_mk (ρ := ρ) (μ := μ) (l := fvW 200 w) (n := li 2) (e := li 0)
      rw [← e] at this
      exact this
end
end Ev
end Go.Proofs.Ytlngklpiapbpmaa
