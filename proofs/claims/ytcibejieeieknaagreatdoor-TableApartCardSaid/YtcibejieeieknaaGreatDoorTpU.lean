/- Two forms in memory: table.keys and table.Meets of them; no conditions. -/
import Derived.Test.YtcibejieeieknaaGreatDoorTpS
import Derived.Test.YtcibejieeieknaaGreatDoorTpN
import Derived.Test.YtcibejieeieknaaGreatDoorTpK0
import Derived.Test.YtcibejieeieknaaGreatDoorTpK1
import Derived.Test.YtcibejieeieknaaGreatDoorTpK2
set_option linter.unusedSimpArgs false
set_option linter.unusedVariables false
namespace Go.Proofs.YtcibejieeieknaaGreatDoor
open Go.Ev
namespace Ev
section
variable {ρ : Env} {pc : PC} {μ : Mu} {h : H} {w : World} {us : Array Value}

/-! ### A form by numbers that are not told -/
structure RowEnv (ρ : Env) (b : Nat) (e : SE) (r : Row) : Prop where
  op : ρ.v b = r.op
  pre : ρ.v (b + 3) = r.pre
  map : ρ.v (b + 4) = r.map
  code : ρ.v (b + 5) = r.code
  digit : ρ.v (b + 6) = r.digit
  w : ρ.v (b + 7) = r.w
  vex : ρ.v (b + 8) = if r.vex then 1 else 0
  l : ρ.v (b + 9) = r.l
  fsh : ρ.v (b + 10) = if r.sh = [] then 0 else 1
  fsl : ρ.v (b + 11) = if r.sl = [] then 0 else 1
  nsh : ρ.fn 40 [e.den ρ] = r.sh.length
  csh : ∀ (i : Nat) (z : Int), r.sh[i]? = some z → ρ.fn 40 [e.den ρ, i] = z
  nsl : ρ.fn 41 [e.den ρ] = r.sl.length
  csl : ∀ (i : Nat) (z : Int), r.sl[i]? = some z → ρ.fn 41 [e.den ρ, i] = z

theorem ap1_den (g : Nat) (e : SE) : (ap1 g e).den ρ = ρ.fn g [e.den ρ] := by simp only [ap1, SE.den, SE.dens]

theorem slP_at {g : G} {nx f id fl : Nat} {e : SE} {v : Value} {l : List Int} (R : Rel ρ μ g nx w) (hb : g id = some (.pickb f e)) (hfl : ρ.v fl = if l = [] then 0 else 1) (hn : ρ.fn f [e.den ρ] = l.length)
    (hc : ∀ (i : Nat) (z : Int), l[i]? = some z → ρ.fn f [e.den ρ, i] = z) (hv : VR ρ μ (slP f id fl e) v) : SlAt w v l := by
  unfold slP at hv
  rw [VR] at hv
  obtain ⟨j, hj, hv, _⟩ := hv
  have hj : ρ.v fl = (j : Int) := hj
  rw [hfl] at hj
  by_cases h0 : l = []
  · rw [if_pos h0] at hj
    have : j = 0 := by omega
    subst this
    have hv : VR ρ μ .nils v := hv
    rw [VR] at hv
    exact .inl ⟨h0, hv⟩
  · rw [if_neg h0] at hj
    have : j = 1 := by omega
    subst this
    have hv : VR ρ μ (.slv id 0 0 (ap1 f e) 1) v := hv
    rw [VR] at hv
    obtain ⟨p, c, m, rfl, hp, hm, _, hmc, hfit⟩ := hv
    obtain ⟨p', o, hp', ho, n, hn', c', e', fr, rfl, h6, h7, h8⟩ := R.blk _ _ hb
    rw [hp] at hp'
    cases hp'
    rw [ap1_den, hn] at hm
    have hm : m = l.length := by omega
    subst hm
    rw [hn] at hn'
    have hn' : n = l.length := by omega
    subst hn'
    refine .inr ⟨h0, p.1, p.2.1 + 0, c, c', e', fr, rfl, hmc, by omega, ho, ?_⟩
    intro i z hz
    have hi : i < l.length := (List.getElem?_eq_some_iff.1 hz).1
    rw [Nat.add_zero, h8 i hi, hc i z hz]

theorem rowV_at {g : G} {nx b id : Nat} {e : SE} {r : Row} {v : Value} (E : RowEnv ρ b e r) (R : Rel ρ μ g nx w) (h1 : g id = some (.pickb 40 e)) (h2 : g (id + 1) = some (.pickb 41 e)) (hv : VR ρ μ (rowV b id e) v) : RowAt w v r := by
  unfold rowV at hv
  rw [VR] at hv
  obtain ⟨ys, rfl, hv⟩ := hv
  simp only [VRs] at hv
  obtain ⟨y0, r0, e0, q0, y1, r1, rfl, q1, y2, r2, rfl, q2, y3, r3, rfl, q3, y4, r4, rfl, q4, y5, r5, rfl, q5, y6, r6, rfl, q6, y7, r7, rfl, q7, y8, r8, rfl, q8, y9, r9, rfl, q9, rfl⟩ := hv
  simp only [VR] at q0 q3 q4 q5 q6 q7 q8 q9
  obtain ⟨p, o, _, ho, _, _, c, e', fr, rfl, _⟩ := R.blk _ _ h1
  refine ⟨⟨y1, y2, ?_, slP_at R h1 E.fsh E.nsh E.csh q1, slP_at R h2 E.fsl E.nsl E.csl q2⟩, p.1, c, e', fr, ho⟩
  unfold aggR
  congr 1
  apply Array.toList_inj.1
  rw [e0, q0, q3, q4, q5, q6, q7, q8, q9]
  have hvx : (SB.eq (vr (b + 8)) (li 1)).den ρ = r.vex := by
    show (ρ.v (b + 8) == 1) = r.vex
    rw [E.vex]
    cases r.vex <;> rfl
  rw [hvx]
  simp only [SE.den, E.op, E.pre, E.map, E.code, E.digit, E.w, E.l]

theorem slLoc {v : Value} {l : List Int} (hs : SlAt w v l) (hobj : ∃ (b : Nat) (c : Array Value) (e : TypeId) (fr : Nat × Nat), w.heap[b]? = some (.cells c e fr)) :
    ∃ p : Ev.Loc, ∀ {ρ : Env} {μ : Mu} {f : Nat} {e : SE}, ρ.fn f [e.den ρ] = l.length → (∀ (i : Nat) (z : Int), l[i]? = some z → ρ.fn f [e.den ρ, i] = z) →
      (∃ o, w.heap[p.1]? = some o ∧ BR ρ μ p (.pickb f e) o) ∧ ∀ {id fl : Nat}, μ id = some p → ρ.v fl = (if l = [] then 0 else 1) → VR ρ μ (slP f id fl e) v := by
  rcases hs with ⟨rfl, rfl⟩ | ⟨h0, b, off, cap, c, e', fr, rfl, h2, h3, h4, h5⟩
  · obtain ⟨b, c, e', fr, ho⟩ := hobj
    refine ⟨(b, 0, c.size), fun hn _ => ⟨⟨_, ho, 0, hn, c, e', fr, rfl, rfl, by simp, fun i hi => absurd hi (Nat.not_lt_zero i)⟩, fun hμ hfl => ?_⟩⟩
    unfold slP
    rw [VR]
    exact ⟨0, by rw [if_pos rfl] at hfl; exact hfl, by show VR _ _ .nils _; rw [VR], rfl⟩
  · refine ⟨(b, off, c.size), fun {ρ μ f e} hn hc => ⟨⟨_, h4, l.length, hn, c, e', fr, rfl, rfl, by simp only; omega, fun i hi => ?_⟩, fun {id fl} hμ hfl => ?_⟩⟩
    · have := h5 i l[i] (List.getElem?_eq_getElem hi)
      rw [this, hc i l[i] (List.getElem?_eq_getElem hi)]
    · unfold slP
      rw [VR]
      refine ⟨1, by rw [if_neg h0] at hfl; exact hfl, ?_, rfl⟩
      show VR ρ μ (.slv id 0 0 (ap1 f e) 1) _
      rw [VR]
      exact ⟨(b, off, c.size), cap, l.length, rfl, hμ, by rw [ap1_den, hn], Nat.zero_le _, h2, by simpa using h3⟩

theorem rowV_mk {b id : Nat} {e : SE} {r : Row} {s1 s2 : Value} (E : RowEnv ρ b e r) (h1 : VR ρ μ (slP 40 id (b + 10) e) s1) (h2 : VR ρ μ (slP 41 (id + 1) (b + 11) e) s2) : VR ρ μ (rowV b id e) (aggR r s1 s2) := by
  unfold rowV aggR
  rw [VR]
  refine ⟨_, rfl, ?_⟩
  have hvx : (SB.eq (vr (b + 8)) (li 1)).den ρ = r.vex := by
    show (ρ.v (b + 8) == 1) = r.vex
    rw [E.vex]
    cases r.vex <;> rfl
  simp only [VRs]
  refine ⟨_, _, rfl, by rw [VR]; simp only [SE.den, E.op], _, _, rfl, h1, _, _, rfl, h2, _, _, rfl, by rw [VR]; simp only [SE.den, E.pre], _, _, rfl, by rw [VR]; simp only [SE.den, E.map], _, _, rfl, by rw [VR]; simp only [SE.den, E.code], _, _, rfl, by rw [VR]; simp only [SE.den, E.digit], _, _, rfl, by rw [VR]; simp only [SE.den, E.w], _, _, rfl, by rw [VR, hvx], _, _, rfl, by rw [VR]; simp only [SE.den, E.l], rfl⟩

theorem H2_get {id : Nat} {b : Blk} (h : H2.get id = some b) : (id = 67 ∧ b = .pickb 41 (vr 91)) ∨ (id = 66 ∧ b = .pickb 40 (vr 91)) ∨ (id = 65 ∧ b = .pickb 41 (vr 90)) ∨ (id = 64 ∧ b = .pickb 40 (vr 90)) := by
  have h : ((((T.nil.put 64 (Blk.pickb 40 (vr 90))).put 65 (.pickb 41 (vr 90))).put 66 (.pickb 40 (vr 91))).put 67 (.pickb 41 (vr 91))).get id = some b := h
  rw [T.get_put] at h
  split at h
  · rename_i q; cases h; exact .inl ⟨q, rfl⟩
  · rw [T.get_put] at h
    split at h
    · rename_i q; cases h; exact .inr (.inl ⟨q, rfl⟩)
    · rw [T.get_put] at h
      split at h
      · rename_i q; cases h; exact .inr (.inr (.inl ⟨q, rfl⟩))
      · rw [T.get_put] at h
        split at h
        · rename_i q; cases h; exact .inr (.inr (.inr ⟨q, rfl⟩))
        · rw [T.get_nil] at h; cases h

theorem H2_own {id : Nat} {b : Blk} (h : H2.get id = some b) : b.own = false := by
  rcases H2_get h with ⟨_, rfl⟩ | ⟨_, rfl⟩ | ⟨_, rfl⟩ | ⟨_, rfl⟩ <;> rfl

theorem rel2 {ρ0 : Env} {g : G} {nx : Nat} (R : Rel ρ0 μ g nx w) {a b : Row} {va vb : Value} (ha : RowAt w va a) (hb : RowAt w vb b) (EA : RowEnv ρ 100 (vr 90) a) (EB : RowEnv ρ 120 (vr 91) b) :
    ∃ μ' : Mu, Rel ρ μ' H2.get H2.next w ∧ VR ρ μ' rowA va ∧ VR ρ μ' rowB vb := by
  obtain ⟨⟨s1, s2, rfl, h1, h2⟩, hobj⟩ := ha
  obtain ⟨⟨t1, t2, rfl, h3, h4⟩, _⟩ := hb
  obtain ⟨p1, q1⟩ := slLoc h1 hobj
  obtain ⟨p2, q2⟩ := slLoc h2 hobj
  obtain ⟨p3, q3⟩ := slLoc h3 hobj
  obtain ⟨p4, q4⟩ := slLoc h4 hobj
  let μ' : Mu := fun k => if k = 64 then some p1 else if k = 65 then some p2 else if k = 66 then some p3 else if k = 67 then some p4 else muG μ k
  have m1 : μ' 64 = some p1 := rfl
  have m2 : μ' 65 = some p2 := rfl
  have m3 : μ' 66 = some p3 := rfl
  have m4 : μ' 67 = some p4 := rfl
  obtain ⟨⟨o1, ho1, b1⟩, v1⟩ := q1 (ρ := ρ) (μ := μ') (f := 40) (e := vr 90) EA.nsh EA.csh
  obtain ⟨⟨o2, ho2, b2⟩, v2⟩ := q2 (ρ := ρ) (μ := μ') (f := 41) (e := vr 90) EA.nsl EA.csl
  obtain ⟨⟨o3, ho3, b3⟩, v3⟩ := q3 (ρ := ρ) (μ := μ') (f := 40) (e := vr 91) EB.nsh EB.csh
  obtain ⟨⟨o4, ho4, b4⟩, v4⟩ := q4 (ρ := ρ) (μ := μ') (f := 41) (e := vr 91) EB.nsl EB.csl
  refine ⟨μ', ⟨?_, ?_, ?_, ?_⟩, rowV_mk EA (v1 m1 EA.fsh) (v2 m2 EA.fsl), rowV_mk EB (v3 m3 EB.fsh) (v4 m4 EB.fsl)⟩
  · intro id bk hbk
    rcases H2_get hbk with ⟨rfl, rfl⟩ | ⟨rfl, rfl⟩ | ⟨rfl, rfl⟩ | ⟨rfl, rfl⟩
    · exact ⟨p4, o4, m4, ho4, b4⟩
    · exact ⟨p3, o3, m3, ho3, b3⟩
    · exact ⟨p2, o2, m2, ho2, b2⟩
    · exact ⟨p1, o1, m1, ho1, b1⟩
  · intro i j b b' p q hi hj ho
    rw [H2_own hi] at ho; cases ho
  · intro id p hp
    show id < 68
    simp only [μ'] at hp
    split at hp
    · omega
    · split at hp
      · omega
      · split at hp
        · omega
        · split at hp
          · omega
          · unfold muG at hp
            split at hp
            · omega
            · cases hp
  · intro k hk
    obtain ⟨z, hz⟩ := R.glob k hk
    exact ⟨z, by simp only [μ']; rw [if_neg (by omega), if_neg (by omega), if_neg (by omega), if_neg (by omega)]; unfold muG; rw [if_pos hk]; exact hz⟩

/-! ### The hooks -/
theorem slEq_eq {f id fl : Nat} {e : SE} {a : AV} (h : slEq f id fl e a = true) : a = slP f id fl e := by
  unfold slEq at h
  split at h
  · simp only [Bool.and_eq_true] at h
    obtain ⟨h1, h2, h3, h4⟩ := h
    rw [beq_eq h1, beq_eq h2, SE.beq_eq h3, beq_eq h4]; rfl
  · cases h
theorem rowEq_eq {b id : Nat} {e : SE} {a : AV} (h : rowEq b id e a = true) : a = rowV b id e := by
  unfold rowEq at h
  split at h
  · simp only [Bool.and_eq_true] at h
    obtain ⟨h0, h1, h2, h3, h4, h5, h6, h7, h8, h9⟩ := h
    rw [AV.beq_eq h0, slEq_eq h1, slEq_eq h2, AV.beq_eq h3, AV.beq_eq h4, AV.beq_eq h5, AV.beq_eq h6, AV.beq_eq h7, AV.beq_eq h8, AV.beq_eq h9]; rfl
  · cases h
theorem isPb_eq {f : Nat} {e : SE} {b : Option Blk} (h : isPb f e b = true) : b = some (.pickb f e) := by
  unfold isPb at h
  split at h
  · simp only [Bool.and_eq_true] at h
    rw [beq_eq h.1, SE.beq_eq h.2]
  · cases h
theorem isA_at {a : AV} {r : Row} {v : Value} (EA : RowEnv ρ 100 (vr 90) r) (R : Rel ρ μ h.get h.next w) (ha : isA a h = true) (hv : VR ρ μ a v) : RowAt w v r := by
  unfold isA hasB at ha
  simp only [Bool.and_eq_true] at ha
  rw [rowEq_eq ha.1] at hv
  exact rowV_at EA R (isPb_eq ha.2.1) (isPb_eq ha.2.2) hv
theorem isB_at {a : AV} {r : Row} {v : Value} (EB : RowEnv ρ 120 (vr 91) r) (R : Rel ρ μ h.get h.next w) (ha : isB a h = true) (hv : VR ρ μ a v) : RowAt w v r := by
  unfold isB hasB at ha
  simp only [Bool.and_eq_true] at ha
  rw [rowEq_eq ha.1] at hv
  exact rowV_at EB R (isPb_eq ha.2.1) (isPb_eq ha.2.2) hv

theorem boolPost {h' : H} {s t : SB} {us : Array Value} {f : Nat} (hst : s.den ρ = t.den ρ) (hc : CallsIn Fence.wide 0 Tryz.prog f us w (FnPost ρ μ h w (.bool s) h')) : CallsIn Fence.wide 0 Tryz.prog f us w (FnPost ρ μ h w (.bool t) h') := by
  refine CallsIn.mono hc ?_
  rintro e w' ⟨x, μ', rfl, hx, h1, h2, h3⟩
  refine ⟨x, μ', rfl, ?_, h1, h2, h3⟩
  rw [VR] at hx ⊢
  rw [hx, hst]

theorem rowS_ok {a b : Row} (EA : RowEnv ρ 100 (vr 90) a) (EB : RowEnv ρ 120 (vr 91) b) {g f : Nat} {res : Row → Bool} (hfn : ∃ fn, Tryz.prog.funcs[f]? = some fn ∧ fn.body.isNone = false ∧ (fn.name == "runtime.NumGoroutine") = false)
    (ca : chk1 f (fun r => .bool (.lit (res r))) a = true) (cb : chk1 f (fun r => .bool (.lit (res r))) b = true) (ga : ρ.pr g [ρ.v 90] = res a) (gb : ρ.pr g [ρ.v 91] = res b) : FnOK Tryz.prog ρ (rowS g pc) f := by
  intro args h v h' hr
  refine ⟨hfn, ?_⟩
  intro μ w us R hv
  have flat : ∀ (r : Row) (μ1 μ2 : Mu) (x : Value), VR ρ μ1 (.bool (.lit (res r))) x → VR ρ μ2 (.bool (.lit (res r))) x := by
    intro r μ1 μ2 x h; rw [VR] at h ⊢; exact h
  unfold rowS at hr
  split at hr
  · rename_i x
    obtain ⟨y, r, e1, q1, q2⟩ := VRs_cons.1 hv
    rw [VRs_nil] at q2
    subst q2
    rcases cond_eq hr with ⟨g1, g2⟩ | ⟨_, g2⟩
    · cases g2
      exact boolPost (by simp only [SB.den, SE.dens, SE.den, ga]) (rowC R (isA_at EA R g1 q1) ca e1 (flat a))
    · rcases cond_eq g2 with ⟨g1, g2⟩ | ⟨_, g2⟩
      · cases g2
        exact boolPost (by simp only [SB.den, SE.dens, SE.den, gb]) (rowC R (isB_at EB R g1 q1) cb e1 (flat b))
      · cases g2
  · cases hr

def codV (r : Row) (n : Int) : Bool := (codesSB r (.lit n)).den ⟨fun _ => 0, fun _ _ => 0, fun _ _ => false⟩
theorem codV_den {r : Row} {n : Int} : (codesSB r (.lit n)).den ρ = codV r n := by
  unfold codV codesSB
  cases cdI r <;> rfl

theorem codesS_ok {a b : Row} (EA : RowEnv ρ 100 (vr 90) a) (EB : RowEnv ρ 120 (vr 91) b) (ca : chk2 a = true) (cb : chk2 b = true) (ga : ∀ n, ρ.pr 35 [ρ.v 90, n] = codV a n) (gb : ∀ n, ρ.pr 35 [ρ.v 91, n] = codV b n) : FnOK Tryz.prog ρ (codesS pc) 54 := by
  intro args h v h' hr
  refine ⟨⟨_, Tryz.func54, by kernel_rfl, by kernel_rfl⟩, ?_⟩
  intro μ w us R hv
  unfold codesS at hr
  split at hr
  · rename_i x n
    obtain ⟨y, r, e1, q1, q2⟩ := VRs_cons.1 hv
    obtain ⟨y2, r2, rfl, q3, q4⟩ := VRs_cons.1 q2
    rw [VRs_nil] at q4
    subst q4
    rw [VR] at q3
    subst q3
    rcases cond_eq hr with ⟨g1, g2⟩ | ⟨_, g2⟩
    · cases g2
      exact boolPost (by rw [codV_den]; simp only [SB.den, SE.dens, SE.den, ga]) (codesC R (isA_at EA R g1 q1) ca e1)
    · rcases cond_eq g2 with ⟨g1, g2⟩ | ⟨_, g2⟩
      · cases g2
        exact boolPost (by rw [codV_den]; simp only [SB.den, SE.dens, SE.den, gb]) (codesC R (isB_at EB R g1 q1) cb e1)
      · cases g2
  · cases hr
end
end Ev
end Go.Proofs.YtcibejieeieknaaGreatDoor
