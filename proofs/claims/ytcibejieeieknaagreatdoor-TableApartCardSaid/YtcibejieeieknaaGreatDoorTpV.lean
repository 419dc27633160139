/- table.keys and table.Meets tell what they are to tell, of any two forms of the table; no conditions. -/
import Derived.Test.YtcibejieeieknaaGreatDoorTpU
set_option linter.unusedSimpArgs false
set_option linter.unusedVariables false
namespace Go.Proofs.YtcibejieeieknaaGreatDoor
open Go.Ev
namespace Ev
/-! ### Numbers -/
def clamp (d : Int) : Int := if d < -8 then -8 else if 8 < d then 8 else d
def keysP (a b : Row) : Bool := preB a b && patK (cdI a) (cdI b) (clamp (a.code - b.code))
def colI (r : Row) (k : Nat) : Int :=
  if k = 0 then r.op else if k = 3 then r.pre else if k = 4 then r.map else if k = 5 then r.code else if k = 6 then r.digit else if k = 7 then r.w else if k = 8 then (if r.vex then 1 else 0)
  else if k = 9 then r.l else if k = 10 then (if r.sh = [] then 0 else 1) else if k = 11 then (if r.sl = [] then 0 else 1) else 0
def pickR (a b : Row) (x : Int) : Row := if x = 0 then a else b
def envJ (a b : Row) : Env :=
  ⟨fun i => if i = 90 then 0 else if i = 91 then 1 else if 120 ≤ i then colI b (i - 120) else colI a (i - 100),
   fun f xs => match xs with
    | [x] => if f = 40 then ((pickR a b x).sh.length : Int) else (pickR a b x).sl.length
    | [x, i] => if f = 40 then (pickR a b x).sh.getD i.toNat 0 else (pickR a b x).sl.getD i.toNat 0
    | _ => 0,
   fun g xs => match xs with
    | [x] => if g = 30 then modI (pickR a b x) else if g = 31 then regI (pickR a b x) else plI (pickR a b x)
    | [x, n] => if g = 33 then keysP a b else codV (pickR a b x) n
    | _ => false⟩

theorem getD_some {l : List Int} {i : Nat} {z : Int} (h : l[i]? = some z) : l.getD (i : Int).toNat 0 = z := by simp [List.getD, h]
theorem envA {a b : Row} : RowEnv (envJ a b) 100 (vr 90) a :=
  ⟨rfl, rfl, rfl, rfl, rfl, rfl, rfl, rfl, rfl, rfl, rfl, fun _ _ h => getD_some h, rfl, fun _ _ h => getD_some h⟩
theorem envB {a b : Row} : RowEnv (envJ a b) 120 (vr 91) b :=
  ⟨rfl, rfl, rfl, rfl, rfl, rfl, rfl, rfl, rfl, rfl, rfl, fun _ _ h => getD_some h, rfl, fun _ _ h => getD_some h⟩

def rowOKB (r : Row) : Bool := decide (0 ≤ r.code) && (decide (r.code ≤ 255) && (!(cdI r) || decide (r.code % 8 = 0)))
set_option maxRecDepth 100000 in
theorem tab7 : ((List.range 263).all fun n => decide (bitOp .andNot .i64 (n : Int) 7 = (n : Int) / 8 * 8)) = true := by decide +kernel
set_option maxRecDepth 100000 in
theorem rowsOK : tabR.all rowOKB = true := by kernel_rfl

theorem and7 {n : Int} (h0 : 0 ≤ n) (h1 : n ≤ 262) : bitOp .andNot .i64 n 7 = n / 8 * 8 := by
  have := of_decide_eq_true (List.all_eq_true.1 tab7 n.toNat (List.mem_range.2 (by omega)))
  rw [Int.toNat_of_nonneg h0] at this
  exact this
theorem codV_eq {r : Row} {n : Int} (h0 : 0 ≤ n) (h1 : n ≤ 262) : codV r n = bif cdI r then decide (n / 8 * 8 = r.code) else decide (n = r.code) := by
  unfold codV codesSB
  cases cdI r with
  | true =>
    show (bitOp .andNot .i64 n 7 == r.code) = decide (n / 8 * 8 = r.code)
    rw [and7 h0 h1]
    by_cases h : n / 8 * 8 = r.code <;> simp [h]
  | false =>
    show (n == r.code) = decide (n = r.code)
    by_cases h : n = r.code <;> simp [h]

/-- Whether a form's opcode may be c + i, by how far its own is from c. -/
theorem codV_pat {r : Row} (hr : rowOKB r = true) {c : Int} (hc0 : 0 ≤ c) (hc1 : c ≤ 255) {i : Nat} (hi : i < 8) : codV r (c + i) = pat (cdI r) (clamp (r.code - c)) i := by
  unfold rowOKB at hr
  simp only [Bool.and_eq_true, Bool.or_eq_true, decide_eq_true_eq, Bool.not_eq_true'] at hr
  obtain ⟨h0, h1, h2⟩ := hr
  rw [codV_eq (by omega) (by omega)]
  unfold pat clamp
  cases hcd : cdI r with
  | true =>
    rw [hcd] at h2
    have h8 : r.code % 8 = 0 := h2.elim (fun h => by cases h) id
    simp only [cond_true]
    rw [← Bool.decide_and]
    congr 1
    apply propext
    split
    · omega
    · split <;> omega
  | false =>
    simp only [cond_false]
    congr 1
    apply propext
    split
    · omega
    · split <;> omega

theorem clamp_neg {d : Int} : clamp (-d) = -clamp d := by
  unfold clamp
  by_cases h1 : d < -8
  · rw [if_neg (by omega), if_pos (by omega), if_pos h1]; omega
  · by_cases h2 : 8 < d
    · rw [if_pos (by omega), if_neg h1, if_pos h2]
    · rw [if_neg (by omega), if_neg (by omega), if_neg h1, if_neg h2]
theorem clamp_zero : clamp 0 = 0 := rfl

theorem wrap_sm {y : Int} (h1 : 0 ≤ y) (h2 : y < 4611686018427387904) : IntKind.i64.wrap y = y := by
  rw [IntKind.wrap_i64]
  omega

theorem patt {a b : Row} (ha : rowOKB a = true) (hb : rowOKB b = true) : PC.holds (envJ a b) (factsK (cdI a) (cdI b) (clamp (a.code - b.code))) := by
  have ha' := ha
  have hb' := hb
  unfold rowOKB at ha' hb'
  simp only [Bool.and_eq_true, decide_eq_true_eq] at ha' hb'
  have nB : ∀ i : Nat, i < 8 → (nE 125 i).den (envJ a b) = b.code + i := fun i hi => by
    show IntKind.i64.wrap (b.code + (i : Int)) = _
    exact wrap_sm (by omega) (by omega)
  have nA : ∀ i : Nat, i < 8 → (nE 105 i).den (envJ a b) = a.code + i := fun i hi => by
    show IntKind.i64.wrap (a.code + (i : Int)) = _
    exact wrap_sm (by omega) (by omega)
  have dA : ∀ (n : SE), (cod (vr 90) n).den (envJ a b) = codV a (n.den (envJ a b)) := fun n => by
    simp only [cod, SB.den, SE.dens]; rfl
  have dB : ∀ (n : SE), (cod (vr 91) n).den (envJ a b) = codV b (n.den (envJ a b)) := fun n => by
    simp only [cod, SB.den, SE.dens]; rfl
  intro x hx
  unfold factsK at hx
  obtain ⟨i, hi, hx⟩ := List.mem_flatMap.1 hx
  have hi := List.mem_range.1 hi
  unfold factsI at hx
  simp only [List.mem_cons, List.mem_nil_iff, or_false] at hx
  rcases hx with rfl | rfl | rfl | rfl
  · rw [dA, nB i hi]; exact codV_pat ha hb'.1 hb'.2.1 hi
  · rw [dB, nB i hi]
    have := codV_pat hb hb'.1 hb'.2.1 hi
    rw [Int.sub_self, clamp_zero] at this
    exact this
  · rw [dB, nA i hi]
    have := codV_pat hb ha'.1 ha'.2.1 hi
    have e : b.code - a.code = -(a.code - b.code) := by omega
    rw [e, clamp_neg] at this
    exact this
  · rw [dA, nA i hi]
    have := codV_pat ha ha'.1 ha'.2.1 hi
    rw [Int.sub_self, clamp_zero] at this
    exact this

theorem keysR_all (d : Int) : keysR (clamp d) = true := by
  have : clamp d = -8 ∨ clamp d = -7 ∨ clamp d = -6 ∨ clamp d = -5 ∨ clamp d = -4 ∨ clamp d = -3 ∨ clamp d = -2 ∨ clamp d = -1 ∨ clamp d = 0 ∨ clamp d = 1 ∨ clamp d = 2 ∨ clamp d = 3 ∨ clamp d = 4 ∨ clamp d = 5 ∨ clamp d = 6 ∨ clamp d = 7 ∨ clamp d = 8 := by
    unfold clamp
    split <;> (try split) <;> omega
  rcases this with h | h | h | h | h | h | h | h | h | h | h | h | h | h | h | h | h <;> rw [h]
  · exact krm8
  · exact krm7
  · exact krm6
  · exact krm5
  · exact krm4
  · exact krm3
  · exact krm2
  · exact krm1
  · exact krp0
  · exact krp1
  · exact krp2
  · exact krp3
  · exact krp4
  · exact krp5
  · exact krp6
  · exact krp7
  · exact krp8

theorem beq_int (x y : Int) : (x == y) = intBeq x y := intBeq_eq.symm

theorem preK_den {a b : Row} : preK.den (envJ a b) = preB a b := by
  have e1 : vA.den (envJ a b) = a.vex := by
    show ((if a.vex then (1 : Int) else 0) == 1) = a.vex
    cases a.vex <;> rfl
  have e2 : vB.den (envJ a b) = b.vex := by
    show ((if b.vex then (1 : Int) else 0) == 1) = b.vex
    cases b.vex <;> rfl
  have e3 : (SB.eq (vr 103) (vr 123)).den (envJ a b) = intBeq a.pre b.pre := beq_int _ _
  have e4 : (SB.eq (vr 104) (vr 124)).den (envJ a b) = intBeq a.map b.map := beq_int _ _
  have e5 : (SB.eq (vr 109) (vr 129)).den (envJ a b) = intBeq a.l b.l := beq_int _ _
  have e6 : (SB.eq (vr 107) (vr 127)).den (envJ a b) = intBeq a.w b.w := beq_int _ _
  have e7 : (SB.eq (vr 107) m1).den (envJ a b) = intBeq a.w (-1) := beq_int _ _
  have e8 : (SB.eq (vr 127) m1).den (envJ a b) = intBeq b.w (-1) := beq_int _ _
  unfold preK preB
  simp only [SB.den]
  simp only [SB.den] at e1 e2 e3 e4 e5 e6 e7 e8
  rw [e1, e2, e3, e4, e5, e6, e7, e8]
  cases a.vex <;> cases b.vex <;> simp

section
variable {ρ : Env} {pc : PC} {μ : Mu} {h : H} {w : World} {us : Array Value}

theorem litPost {h' : H} {b c : Bool} {us : Array Value} {f : Nat} {ρ' : Env} (hbc : b = c) {P' : Ending → World → Prop} (hP : ∀ e w', P' e w' → ∃ x, e = .returned x ∧ x = .bool b ∧ Rel ρ μ h'.get h'.next w' ∧ Stp μ h.get h.next w μ h'.get w' ∧ h.next ≤ h'.next)
    (hc : CallsIn Fence.wide 0 Tryz.prog f us w P') : CallsIn Fence.wide 0 Tryz.prog f us w (FnPost ρ μ h w (.bool (.lit c)) h') := by
  refine CallsIn.mono hc ?_
  intro e w' hp
  obtain ⟨x, h1, h2, h3, h4, h5⟩ := hP e w' hp
  exact ⟨x, μ, h1, by rw [VR, h2, hbc]; rfl, h3, h4, h5⟩

theorem keysC {a b : Row} {va vb : Value} (R : Rel ρ μ h.get h.next w) (ha : RowAt w va a) (hb : RowAt w vb b) (ca : chk2 a = true) (cb : chk2 b = true) (oa : rowOKB a = true) (ob : rowOKB b = true) (hu : us.toList = [va, vb]) :
    CallsIn Fence.wide 0 Tryz.prog 41 us w (FnPost ρ μ h w (.bool (.lit (keysP a b))) h) := by
  have hk := keysR_all (a.code - b.code)
  unfold keysR at hk
  have hk := List.all_eq_true.1 (List.all_eq_true.1 hk (cdI a) (by cases cdI a <;> simp)) (cdI b) (by cases cdI b <;> simp)
  obtain ⟨pc', v, h', hp', hgo, hck⟩ := auto_spec (ρ := envJ a b) hk (patt oa ob)
  obtain ⟨μ', R', v1, v2⟩ := rel2 R ha hb (envA (a := a) (b := b)) (envB (a := a) (b := b))
  have hX : HooksOK Tryz.prog (envJ a b) XK pc' := X0_ok.with (codesS_ok envA envB ca cb (fun n => rfl) (fun n => rfl))
  refine litPost (ρ' := envJ a b) rfl ?_ (callsIn_wide.2 (run_sound hX hp' hmixS R' (by rw [hu]; exact VRs_cons.2 ⟨_, _, rfl, v1, VRs_cons.2 ⟨_, _, rfl, v2, VRs_nil.2 rfl⟩⟩) rfl hgo))
  rintro e w' ⟨x, μ1, rfl, hx, _, S1, _⟩
  obtain ⟨R2, S2⟩ := lift1 R S1 (fun id b h => H2_own h)
  refine ⟨x, rfl, ?_, R2, S2, Nat.le_refl _⟩
  unfold chkK at hck
  split at hck
  · rename_i b0
    have hd := dec_spec hp' (isSome_eq hck)
    rw [VR] at hx
    rw [hx]
    simp only [SB.den] at hd ⊢
    rw [preK_den] at hd
    rw [← hd]; rfl
  · cases hck

theorem keysS_ok {a b : Row} (EA : RowEnv ρ 100 (vr 90) a) (EB : RowEnv ρ 120 (vr 91) b) (ca : chk2 a = true) (cb : chk2 b = true) (oa : rowOKB a = true) (ob : rowOKB b = true) (g : ρ.pr 33 [ρ.v 90, ρ.v 91] = keysP a b) : FnOK Tryz.prog ρ (keysS pc) 41 := by
  intro args h v h' hr
  refine ⟨⟨_, Tryz.func41, by kernel_rfl, by kernel_rfl⟩, ?_⟩
  intro μ w us R hv
  unfold keysS at hr
  split at hr
  · rename_i x y
    obtain ⟨y1, r1, e1, q1, q2⟩ := VRs_cons.1 hv
    obtain ⟨y2, r2, rfl, q3, q4⟩ := VRs_cons.1 q2
    rw [VRs_nil] at q4
    subst q4
    rcases cond_eq hr with ⟨g1, g2⟩ | ⟨_, g2⟩
    · cases g2
      simp only [Bool.and_eq_true] at g1
      exact boolPost (by simp only [SB.den, SE.dens, SE.den, g]) (keysC R (isA_at EA R g1.1 q1) (isB_at EB R g1.2 q3) ca cb oa ob e1)
    · cases g2
  · cases hr

/-- What is asked of a form alone. -/
structure RowCk (r : Row) : Prop where
  c2 : chk2 r = true
  ok : rowOKB r = true
  km : chk1 38 modAV r = true
  kr : chk1 39 regAV r = true
  kp : chk1 40 plAV r = true

theorem apart_den {a b : Row} : apart.den (envJ a b) = apB a b := by
  have e1 : (fA 30).den (envJ a b) = modI a := rfl
  have e2 : (fB 30).den (envJ a b) = modI b := rfl
  have e3 : (fA 31).den (envJ a b) = regI a := rfl
  have e4 : (fB 31).den (envJ a b) = regI b := rfl
  have e5 : (fA 32).den (envJ a b) = plI a := rfl
  have e6 : (fB 32).den (envJ a b) = plI b := rfl
  have e7 : (SB.le (li 0) (vr 106)).den (envJ a b) = decide (0 ≤ a.digit) := rfl
  have e8 : (SB.le (li 0) (vr 126)).den (envJ a b) = decide (0 ≤ b.digit) := rfl
  have e9 : (SB.eq (vr 106) (vr 126)).den (envJ a b) = intBeq a.digit b.digit := beq_int _ _
  unfold apart orS apB
  simp only [SB.den] at e7 e8 e9 ⊢
  rw [e1, e2, e3, e4, e5, e6, e7, e8, e9]
  cases modI a <;> cases modI b <;> cases regI a <;> cases regI b <;> cases plI a <;> cases plI b <;> simp

theorem told_ok {r : Res (AV × H)} {v : AV} {h' : H} (hr : told pc r = .ok (v, h')) : ∃ s t, r = .ok (.bool s, h') ∧ decR pc s = .ok t ∧ v = .bool (.lit t) := by
  unfold told at hr
  obtain ⟨x, h1, h2⟩ := Res.bind_eq_ok hr
  obtain ⟨x1, x2⟩ := x
  cases x1 <;> simp only at h2 <;> first | (cases h2; done) | skip
  rename_i s
  obtain ⟨t, h3, h4⟩ := Res.bind_eq_ok h2
  cases h4
  exact ⟨s, t, h1, h3, rfl⟩

set_option maxRecDepth 10000 in
theorem meetsC {a b : Row} {va vb : Value} (R : Rel ρ μ h.get h.next w) (ha : RowAt w va a) (hb : RowAt w vb b) (ka : RowCk a) (kb : RowCk b) (hu : us.toList = [va, vb]) :
    CallsIn Fence.wide 0 Tryz.prog 17 us w (FnPost ρ μ h w (.bool (.lit (keysP a b && !(apB a b)))) h) := by
  obtain ⟨pc', v, h', hp', hgo, hck⟩ := auto_spec (ρ := envJ a b) mR PC.holds_nil
  obtain ⟨s, t, hrun, ht, rfl⟩ := told_ok hgo
  obtain ⟨μ', R', v1, v2⟩ := rel2 R ha hb (envA (a := a) (b := b)) (envB (a := a) (b := b))
  have hX : HooksOK Tryz.prog (envJ a b) XMt pc' :=
    (((X0_ok.with (rowS_ok (res := modI) envA envB ⟨_, Tryz.func38, by kernel_rfl, by kernel_rfl⟩ ka.km kb.km rfl rfl)).with (rowS_ok (res := regI) envA envB ⟨_, Tryz.func39, by kernel_rfl, by kernel_rfl⟩ ka.kr kb.kr rfl rfl)).with
      (rowS_ok (res := plI) envA envB ⟨_, Tryz.func40, by kernel_rfl, by kernel_rfl⟩ ka.kp kb.kp rfl rfl)).with (keysS_ok envA envB ka.c2 kb.c2 ka.ok kb.ok rfl)
  refine litPost (ρ' := envJ a b) rfl ?_ (callsIn_wide.2 (run_sound hX hp' hmixS R' (by rw [hu]; exact VRs_cons.2 ⟨_, _, rfl, v1, VRs_cons.2 ⟨_, _, rfl, v2, VRs_nil.2 rfl⟩⟩) rfl hrun))
  rintro e w' ⟨x, μ1, rfl, hx, _, S1, _⟩
  obtain ⟨R2, S2⟩ := lift1 R S1 (fun id b h => H2_own h)
  refine ⟨x, rfl, ?_, R2, S2, Nat.le_refl _⟩
  have hd := dec_spec hp' (isSome_eq (show isSome t (dec pc' (.and apK (.not apart))) = true from hck))
  have hs := decR_spec hp' ht
  rw [VR] at hx
  rw [hx, hs]
  simp only [SB.den] at hd
  rw [apart_den] at hd
  rw [← hd]; rfl
end

/-! ### Which forms meet -/
theorem patK_K2 (sA sB : Bool) (d : Int) : patK sA sB (clamp d) = K2 sA sB d := by
  have ib : ∀ x y : Int, intBeq x y = decide (x = y) := fun x y => by rw [intBeq_eq]; by_cases h : x = y <;> simp [h]
  have : d < -8 ∨ d = -8 ∨ d = -7 ∨ d = -6 ∨ d = -5 ∨ d = -4 ∨ d = -3 ∨ d = -2 ∨ d = -1 ∨ d = 0 ∨ d = 1 ∨ d = 2 ∨ d = 3 ∨ d = 4 ∨ d = 5 ∨ d = 6 ∨ d = 7 ∨ d = 8 ∨ 8 < d := by omega
  rcases this with h | rfl | rfl | rfl | rfl | rfl | rfl | rfl | rfl | rfl | rfl | rfl | rfl | rfl | rfl | rfl | rfl | rfl | h
  · have e : clamp d = -8 := by unfold clamp; rw [if_pos h]
    have k : K2 sA sB d = false := by
      unfold K2
      rw [ib]
      have h1 : decide (-7 ≤ d) = false := decide_eq_false (by omega)
      have h2 : decide (0 ≤ d) = false := decide_eq_false (by omega)
      have h3 : decide (d = 0) = false := decide_eq_false (by omega)
      rw [h1, h2, h3]
      cases sA <;> cases sB <;> simp
    rw [e, k]
    cases sA <;> cases sB <;> decide
  all_goals first
    | (cases sA <;> cases sB <;> decide)
    | skip
  have e : clamp d = 8 := by unfold clamp; rw [if_neg (by omega), if_pos h]
  have k : K2 sA sB d = false := by
    unfold K2
    rw [ib]
    have h1 : decide (d ≤ 0) = false := decide_eq_false (by omega)
    have h2 : decide (d ≤ 7) = false := decide_eq_false (by omega)
    have h3 : decide (d = 0) = false := decide_eq_false (by omega)
    rw [h1, h2, h3]
    cases sA <;> cases sB <;> simp
  rw [e, k]
  cases sA <;> cases sB <;> decide

theorem meets_eq {a b : Row} : (keysP a b && !(apB a b)) = meetsB a b := by
  unfold keysP meetsB keysB
  rw [patK_K2]
end Ev
end Go.Proofs.YtcibejieeieknaaGreatDoor
