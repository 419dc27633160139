/- The hooks of VexBack hold of the model; the bytes of VEX as numbers; no conditions. -/
import Derived.Test.YtlngklpiapbpmaaVxD
import Derived.Test.YtlngklpiapbpmaaVxE
set_option linter.unusedSimpArgs false
set_option linter.unusedVariables false
namespace Go.Proofs.Ytlngklpiapbpmaa
open Go.Ev
namespace Ev
section
variable {ρ : Env} {pc : PC}

/-! ### The hooks -/
def reOK (ρ : Env) (x : RE) : Prop :=
  (x.2.2.1.length = 1 ∨ x.2.2.1.length = 2 ∨ x.2.2.1.length = 3) ∧ (x.1 = true ∧ x.2.1 = x.2.2.1.length ∨ x.2.2.1.length = 3 ∧ 3 ≤ x.2.1) ∧ (∀ e ∈ x.2.2.1, 0 ≤ e.den ρ ∧ e.den ρ ≤ 255) ∧
  ∀ μ, VR ρ μ x.2.2.2 (rdV (rdF x.2.2.1.length ((x.2.2.1.map (SE.den ρ)).getD 0 0) ((x.2.2.1.map (SE.den ρ)).getD 1 0) ((x.2.2.1.map (SE.den ρ)).getD 2 0)))

theorem rdE_ok {x : RE} (hx : reOK ρ x) : FnOK Try.prog ρ (rdE x pc) 8 := by
  intro args h v h' hr
  refine ⟨⟨_, Try.func8, by kernel_rfl, by kernel_rfl⟩, ?_⟩
  intro μ w us R hv
  obtain ⟨hn, hm, hrg, hval⟩ := hx
  unfold rdE at hr
  split at hr
  · rename_i id off m ex cap es
    rcases cond_eq hr with ⟨g1, g2⟩ | ⟨_, g2⟩
    · simp only [Bool.and_eq_true] at g1
      have hes := beq_eq g1.1
      subst hes
      obtain ⟨l, g3, g4⟩ := Res.bind_eq_ok g2
      rcases cond_eq g4 with ⟨g5, g6⟩ | ⟨_, g6⟩
      · cases g6
        have g5 := avsBeq_eq g5
        subst g5
        have hnm : m = x.2.2.1.length ∨ (x.2.2.1.length = 3 ∧ 3 ≤ m) := by
          rcases hm with ⟨h1, h2⟩ | ⟨h1, h2⟩
          · have := g1.2
            rw [h1, cond_true] at this
            left; rw [← h2]; exact beq_eq this
          · right
            refine ⟨h1, ?_⟩
            have := g1.2
            cases hb : x.1 with
            | true => rw [hb, cond_true] at this; have := beq_eq this; omega
            | false => rw [hb, cond_false] at this; have : x.2.1 ≤ m := by simpa using this
                       omega
        refine CallsIn.mono (readC R hv hn hnm g3 hrg) ?_
        rintro e w' ⟨rfl, R', S'⟩
        exact ⟨_, μ, rfl, hval μ, R', S', Nat.le_refl _⟩
      · cases g6
    · cases g2
  · cases hr

theorem rdTab_ok (hp : pc.holds ρ) : ∀ {l : List RE}, (∀ x ∈ l, reOK ρ x) → FnOK Try.prog ρ (rdTab Try.prog l pc) 8
  | [], _ => runH_ok X0_ok hp rfl hmix ⟨_, Try.func8, by kernel_rfl, by kernel_rfl⟩
  | x :: r, h => sumOr_ok (rdE_ok (h x List.mem_cons_self)) (rdTab_ok hp fun y hy => h y (List.mem_cons_of_mem _ hy))

theorem ints8 (l : List Int) (hl : l.length = 8) : (List.range 8).map (fun i => Value.int .i64 (l.getD i 0)) = l.map (Value.int .i64) := by
  apply List.ext_getElem
  · simp [hl]
  · intro i h1 h2
    have : i < l.length := by simpa using h2
    simp [List.getD, List.getElem?_eq_getElem this]

theorem chkH_ok {fs : List SE} {good : Bool} (hl : fs.length = 8) (hg : goodI (fun i => (fs.map (SE.den ρ)).getD i 0) = good) : FnOK Try.prog ρ (chkH (.agg (fs.map i6)) good pc) 16 := by
  intro args h v h' hr
  refine ⟨⟨_, Try.func16, by kernel_rfl, by kernel_rfl⟩, ?_⟩
  intro μ w us R hv
  unfold chkH at hr
  split at hr
  · rename_i a
    rcases cond_eq hr with ⟨g1, g2⟩ | ⟨_, g2⟩
    · cases g2
      have g1 := AV.beq_eq g1
      subst g1
      obtain ⟨y, r, e1, q1, q2⟩ := VRs_cons.1 hv
      rw [VRs_nil] at q2
      subst q2
      have q1 := VR_ints q1
      subst q1
      have := checkC R (fun i => (fs.map (SE.den ρ)).getD i 0) (us := us) (by
        rw [e1, ints8 _ (by simpa using hl)])
      rw [hg] at this
      exact this
    · cases g2
  · cases hr

theorem ppH_ok (hf : ∀ x, ρ.fn 5 [x] = ppI x) : FnOK Try.prog ρ (ppH pc) 23 := by
  intro args h v h' hr
  refine ⟨⟨_, Try.func23, by kernel_rfl, by kernel_rfl⟩, ?_⟩
  intro μ w us R hv
  unfold ppH at hr
  split at hr
  · rename_i e
    cases hr
    obtain ⟨y, r, e1, q1, q2⟩ := VRs_cons.1 hv
    rw [VRs_nil] at q2
    subst q2
    rw [VR] at q1
    subst q1
    refine CallsIn.mono (ppC R (e.den ρ) e1) ?_
    rintro e' w' ⟨x, μ', rfl, hx, R', S', n'⟩
    refine ⟨x, μ', rfl, ?_, R', S', n'⟩
    rw [VR] at hx ⊢
    rw [hx]
    simp only [SE.den, SE.dens, hf]
  · cases hr

theorem XV_ok (hp : pc.holds ρ) (hf : ∀ x, ρ.fn 5 [x] = ppI x) {fs : List SE} {good : Bool} (hl : fs.length = 8) (hg : goodI (fun i => (fs.map (SE.den ρ)).getD i 0) = good) {l : List RE} (h : ∀ x ∈ l, reOK ρ x) :
    HooksOK Try.prog ρ (XV Try.prog (.agg (fs.map i6)) good l) pc :=
  (((X0_ok.with (sumTab_ok (gl := []) rfl X0_ok rfl hmix ⟨_, Try.func4, by kernel_rfl, by kernel_rfl⟩ chk4)).with (chkH_ok hl hg)).with (ppH_ok hf)).with (rdTab_ok hp h)

/-! ### The bytes -/
def envL (l : List Int) : Env := ⟨fun i => l.getD i 0, fun _ xs => ppI (xs.headD 0), fun _ _ => false⟩
def bits01 : List Int := [0, 1]
set_option maxRecDepth 100000 in
theorem tabE1 : (bits01.all fun r => bits01.all fun x => bits01.all fun b => [(1 : Int), 2, 3].all fun m => decide ((E1 (.var 0) (.var 1) (.var 2) (.var 3)).den (envL [r, x, b, m]) = 128 * (1 - r) + 64 * (1 - x) + 32 * (1 - b) + m)) = true := by decide +kernel
def vs16 : List Int := [0, 1, 2, 3, 4, 5, 6, 7, 8, 9, 10, 11, 12, 13, 14, 15]
def ps4 : List Int := [0, 1, 2, 4]
set_option maxRecDepth 100000 in
theorem tabE2 : (bits01.all fun t => vs16.all fun v => bits01.all fun l => ps4.all fun p => decide ((E2 (.var 0) (.var 1) (.var 2) (.var 3)).den (envL [16 * t, v, l, p]) = 128 * t + 8 * (15 - v) + 4 * l + ppI p)) = true := by decide +kernel
set_option maxRecDepth 100000 in
theorem tabE0 : (bits01.all fun r => vs16.all fun v => bits01.all fun l => ps4.all fun p => decide ((E0 (.var 0) (.var 1) (.var 2) (.var 3)).den (envL [r, v, l, p]) = 128 * (1 - r) + 8 * (15 - v) + 4 * l + ppI p)) = true := by decide +kernel
set_option maxRecDepth 100000 in
theorem tabW : (bits01.all fun t => decide ((hW (.var 0)).den (envL [t]) = 16 * t)) = true := by decide +kernel

theorem mem01 {x : Int} (h : x = 0 ∨ x = 1) : x ∈ bits01 := by rcases h with rfl | rfl <;> simp [bits01]
theorem mem16 {x : Int} (h0 : 0 ≤ x) (h1 : x ≤ 15) : x ∈ vs16 := by
  have : x = 0 ∨ x = 1 ∨ x = 2 ∨ x = 3 ∨ x = 4 ∨ x = 5 ∨ x = 6 ∨ x = 7 ∨ x = 8 ∨ x = 9 ∨ x = 10 ∨ x = 11 ∨ x = 12 ∨ x = 13 ∨ x = 14 ∨ x = 15 := by omega
  rcases this with rfl | rfl | rfl | rfl | rfl | rfl | rfl | rfl | rfl | rfl | rfl | rfl | rfl | rfl | rfl | rfl <;> simp [vs16]
theorem mem4 {x : Int} (h : x = 0 ∨ x = 1 ∨ x = 2 ∨ x = 4) : x ∈ ps4 := by rcases h with rfl | rfl | rfl | rfl <;> simp [ps4]
theorem mem3 {x : Int} (h0 : 1 ≤ x) (h1 : x ≤ 3) : x ∈ [(1 : Int), 2, 3] := by
  have : x = 1 ∨ x = 2 ∨ x = 3 := by omega
  rcases this with rfl | rfl | rfl <;> simp

theorem E1_den {r x b m : SE} (hr : r.den ρ = 0 ∨ r.den ρ = 1) (hx : x.den ρ = 0 ∨ x.den ρ = 1) (hb : b.den ρ = 0 ∨ b.den ρ = 1) (h1 : 1 ≤ m.den ρ) (h3 : m.den ρ ≤ 3) :
    (E1 r x b m).den ρ = 128 * (1 - r.den ρ) + 64 * (1 - x.den ρ) + 32 * (1 - b.den ρ) + m.den ρ := by
  have := of_decide_eq_true (List.all_eq_true.1 (List.all_eq_true.1 (List.all_eq_true.1 (List.all_eq_true.1 tabE1 _ (mem01 hr)) _ (mem01 hx)) _ (mem01 hb)) _ (mem3 h1 h3))
  rw [← this]
  simp only [E1, Ev.sh, h0, SE.den]
  rfl
theorem E2_den (hf : ∀ x, ρ.fn 5 [x] = ppI x) {hd v l p : SE} {t : Int} (ht : t = 0 ∨ t = 1) (hh : hd.den ρ = 16 * t) (hv0 : 0 ≤ v.den ρ) (hv1 : v.den ρ ≤ 15) (hl : l.den ρ = 0 ∨ l.den ρ = 1) (hp : p.den ρ = 0 ∨ p.den ρ = 1 ∨ p.den ρ = 2 ∨ p.den ρ = 4) :
    (E2 hd v l p).den ρ = 128 * t + 8 * (15 - v.den ρ) + 4 * l.den ρ + ppI (p.den ρ) := by
  have := of_decide_eq_true (List.all_eq_true.1 (List.all_eq_true.1 (List.all_eq_true.1 (List.all_eq_true.1 tabE2 _ (mem01 ht)) _ (mem16 hv0 hv1)) _ (mem01 hl)) _ (mem4 hp))
  rw [← this]
  simp only [E2, tl, Ev.sh, SE.den, SE.dens, hf, hh]
  rfl
theorem E0_den (hf : ∀ x, ρ.fn 5 [x] = ppI x) {r v l p : SE} (hr : r.den ρ = 0 ∨ r.den ρ = 1) (hv0 : 0 ≤ v.den ρ) (hv1 : v.den ρ ≤ 15) (hl : l.den ρ = 0 ∨ l.den ρ = 1) (hp : p.den ρ = 0 ∨ p.den ρ = 1 ∨ p.den ρ = 2 ∨ p.den ρ = 4) :
    (E0 r v l p).den ρ = 128 * (1 - r.den ρ) + 8 * (15 - v.den ρ) + 4 * l.den ρ + ppI (p.den ρ) := by
  have := of_decide_eq_true (List.all_eq_true.1 (List.all_eq_true.1 (List.all_eq_true.1 (List.all_eq_true.1 tabE0 _ (mem01 hr)) _ (mem16 hv0 hv1)) _ (mem01 hl)) _ (mem4 hp))
  rw [← this]
  simp only [E0, tl, hW, h0, Ev.sh, SE.den, SE.dens, hf]
  rfl
theorem hW_den {w : SE} (hw : w.den ρ = 0 ∨ w.den ρ = 1) : (hW w).den ρ = 16 * w.den ρ := by
  have := of_decide_eq_true (List.all_eq_true.1 tabW _ (mem01 hw))
  rw [← this]
  simp only [hW, h0, SE.den]
  rfl

/-- What may be. -/
structure Good (z : Nat → Int) : Prop where
  r : z 0 = 0 ∨ z 0 = 1
  x : z 1 = 0 ∨ z 1 = 1
  b : z 2 = 0 ∨ z 2 = 1
  m1 : 1 ≤ z 3
  m3 : z 3 ≤ 3
  w : z 4 = 0 ∨ z 4 = 1
  v0 : 0 ≤ z 5
  v1 : z 5 ≤ 15
  l : z 6 = 0 ∨ z 6 = 1
  p : z 7 = 0 ∨ z 7 = 1 ∨ z 7 = 2 ∨ z 7 = 4

theorem goodI_iff {z : Nat → Int} : goodI z = true ↔ Good z := by
  have key : goodI z = true ↔ ((z 0 = 0 ∨ z 0 = 1) ∧ (z 1 = 0 ∨ z 1 = 1) ∧ (z 2 = 0 ∨ z 2 = 1) ∧ (z 4 = 0 ∨ z 4 = 1) ∧ (z 6 = 0 ∨ z 6 = 1) ∧ 1 ≤ z 3 ∧ z 3 ≤ 3 ∧ 0 ≤ z 5 ∧ z 5 ≤ 15 ∧ (z 7 = 1 ∨ z 7 = 4 ∨ z 7 = 2 ∨ z 7 = 0)) := by
    unfold goodI goodS bitS preS envZ
    simp only [SB.den, SE.den, Bool.and_eq_true, Bool.not_eq_true', Bool.not_eq_false', Bool.and_eq_false_iff, decide_eq_false_iff_not, beq_iff_eq]
    change ((z 0 = 0 ∨ z 0 = 1) ∧ (z 1 = 0 ∨ z 1 = 1) ∧ (z 2 = 0 ∨ z 2 = 1) ∧ (z 4 = 0 ∨ z 4 = 1) ∧ (z 6 = 0 ∨ z 6 = 1) ∧ decide (z 3 < 1) = false ∧ decide (3 < z 3) = false ∧ decide (z 5 < 0) = false ∧ decide (15 < z 5) = false ∧ (z 7 = 1 ∨ z 7 = 4 ∨ z 7 = 2 ∨ z 7 = 0)) ↔ _
    simp only [decide_eq_false_iff_not, Int.not_lt]
  rw [key]
  constructor
  · rintro ⟨h1, h2, h3, h4, h5, h6, h7, h8, h9, h10⟩
    exact ⟨h1, h2, h3, h6, h7, h4, h8, h9, h5, by omega⟩
  · rintro ⟨h1, h2, h3, h6, h7, h4, h8, h9, h5, h10⟩
    exact ⟨h1, h2, h3, h4, h5, h6, h7, h8, h9, by omega⟩
end
end Ev
end Go.Proofs.Ytlngklpiapbpmaa
