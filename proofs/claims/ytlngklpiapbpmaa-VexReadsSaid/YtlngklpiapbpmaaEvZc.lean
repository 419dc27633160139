/- Texts searched for a byte, hooks put together, runs under several cases: from the evaluator to laws with package variables that are known; no theorem of the program yet; no conditions. -/
import Derived.Test.YtlngklpiapbpmaaEvZb
import Derived.Lib.Bytealg
set_option linter.unusedSimpArgs false
set_option linter.unusedVariables false
namespace Go.Ev

/-! ### internal/bytealg.IndexByteString -/
noncomputable def idxA : List SE → Nat → Nat → Res AV
  | [], _, _ => .ok (.int .i64 (.lit (.negSucc 0)))
  | .lit (.ofNat b) :: r, c, i => bif Nat.ble b 255 then (bif Nat.beq b c then .ok (.int .i64 (.lit (.ofNat i))) else idxA r c (Nat.succ i)) else .fail "IndexByteString: a byte"
  | _ :: _, _, _ => .fail "IndexByteString: a byte that is not told"

noncomputable def extIdx : PC → List AV → Res AV := fun _ as =>
  match as with
  | [.str _ bs, .int .u8 (.lit (.ofNat c))] => bif Nat.ble c 255 then idxA bs c 0 else .fail "IndexByteString: a byte"
  | _ => .fail "IndexByteString"

section
variable {ρ : Env} {P : Program} {pc : PC} {X : Hooks}

theorem idxA_spec {μ : Mu} : ∀ {bs : List SE} {c i : Nat} {v : AV}, c ≤ 255 → idxA bs c i = .ok v →
    VR ρ μ v (.int .i64 (if Lib.indexByte (bs.map fun e => UInt8.ofNat (e.den ρ).toNat) (UInt8.ofNat c) = -1 then -1 else i + Lib.indexByte (bs.map fun e => UInt8.ofNat (e.den ρ).toNat) (UInt8.ofNat c)))
  | [], c, i, v, _, h => by
    cases h
    simp [Lib.indexByte, VR, SE.den]
  | e :: r, c, i, v, hc, h => by
    cases e with
    | lit n =>
      cases n with
      | ofNat b =>
        have h : (bif Nat.ble b 255 then (bif Nat.beq b c then Res.ok (AV.int .i64 (.lit (.ofNat i))) else idxA r c (Nat.succ i)) else .fail "IndexByteString: a byte") = .ok v := h
        rcases cond_eq h with ⟨h1, h2⟩ | ⟨_, h2⟩
        · have hb : b ≤ 255 := by simpa using h1
          have e1 : ((SE.lit (Int.ofNat b)).den ρ).toNat = b := by simp [SE.den]
          rcases cond_eq h2 with ⟨h3, h4⟩ | ⟨h3, h4⟩
          · have := beq_eq h3
            subst this
            cases h4
            simp only [List.map_cons, e1]
            simp [Lib.indexByte, VR, SE.den]
          · have hne : b ≠ c := fun q => by subst q; simp at h3
            have ih := idxA_spec (μ := μ) hc h4
            have hu : (UInt8.ofNat b == UInt8.ofNat c) = false := by
              rw [beq_eq_false_iff_ne]
              intro q
              have q := congrArg UInt8.toNat q
              simp at q
              omega
            simp only [List.map_cons, e1]
            have hge := Lib.indexByte_ge (r.map fun e => UInt8.ofNat (e.den ρ).toNat) (UInt8.ofNat c)
            revert ih
            generalize hx : Lib.indexByte (r.map fun e => UInt8.ofNat (e.den ρ).toNat) (UInt8.ofNat c) = x at hge
            intro ih
            simp only [Lib.indexByte, hu, Bool.false_eq_true, if_false, hx]
            by_cases q : x = -1
            · subst q
              simpa using ih
            · have q1 : (x == -1) = false := by simpa using q
              rw [if_neg q] at ih
              simp only [q1, Bool.false_eq_true, if_false]
              rw [if_neg (by omega)]
              have : (i : Int) + (x + 1) = ((Nat.succ i : Nat) : Int) + x := by push_cast; omega
              rw [this]; exact ih
        · cases h2
      | negSucc _ => cases h
    | _ => cases h

noncomputable def extX (e : Nat) : Nat → Option (PC → List AV → Res AV) := fun f => bif Nat.beq f e then some extIdx else none

/-- Hooks: the one function without a body alone. -/
noncomputable def XE (e : Nat) : Hooks := ⟨fun _ => none, extX e, fun _ _ => none⟩

theorem XE_ok {e : Nat} {fn : Func} (hf : P.funcs[e]? = some fn) (hname : (fn.name == "runtime.NumGoroutine") = false)
    (hb : fn.body.isNone = true) (hn : Extern.findNext fn = none) (he : Extern.find fn = some Extern.BytealgIndexByte.indexByte) : HooksOK P ρ (XE e) pc := by
  refine ⟨(fun _ _ h => by cases h), ?_, (fun _ _ _ h => by cases h)⟩
  intro f g hfg args v hr μ us w hv
  have hfg : (bif Nat.beq f e then some extIdx else none) = some g := hfg
  rcases cond_eq hfg with ⟨h1, h2⟩ | ⟨_, h2⟩
  · have h1 := beq_eq h1
    subst h1
    cases h2
    unfold extIdx at hr
    split at hr
    · rename_i n bs c
      rcases cond_eq hr with ⟨h3, h4⟩ | ⟨_, h4⟩
      · have hc : c ≤ 255 := by simpa using h3
        rw [VRs_cons] at hv
        obtain ⟨y1, r1, e1, q1, hv⟩ := hv
        rw [VRs_cons] at hv
        obtain ⟨y2, r2, rfl, q2, hv⟩ := hv
        rw [VRs_nil] at hv
        subst hv
        simp only [VR] at q1 q2
        obtain ⟨s, rfl, hs⟩ := q1
        subst q2
        have hus : us = #[.string s, .int .u8 ((SE.lit (Int.ofNat c)).den ρ)] := by apply Array.ext'; simpa using e1
        subst hus
        refine ⟨_, by rw [run_callFunc_extern hf hname hb hn he, Lib.run_indexByteString]; rfl, ?_⟩
        have := idxA_spec (ρ := ρ) (μ := μ) hc h4
        rw [hs.2]
        have hcc : ((SE.lit (Int.ofNat c)).den ρ).toNat.toUInt8 = UInt8.ofNat c := by simp [SE.den]
        rw [hcc]
        revert this
        generalize Lib.indexByte (bs.map fun e => UInt8.ofNat (e.den ρ).toNat) (UInt8.ofNat c) = x
        intro this
        by_cases q : x = -1
        · subst q; simpa using this
        · rw [if_neg q] at this; simpa using this
      · cases h4
    · cases hr
  · cases h2

/-- One summary more. -/
noncomputable def Hooks.with (X : Hooks) (f : Nat) (g : PC → List AV → H → Res (AV × H)) : Hooks := ⟨fun k => bif Nat.beq k f then some g else X.sum k, X.ext, X.mth⟩

theorem HooksOK.with {f : Nat} {g : PC → List AV → H → Res (AV × H)} (x : HooksOK P ρ X pc) (h : FnOK P ρ (g pc) f) : HooksOK P ρ (X.with f g) pc := by
  refine ⟨?_, x.ext, x.mth⟩
  intro k g' hk
  have hk : (bif Nat.beq k f then some g else X.sum k) = some g' := hk
  rcases cond_eq hk with ⟨h1, h2⟩ | ⟨_, h2⟩
  · have h1 := beq_eq h1
    subst h1; cases h2; exact h
  · exact x.sum k g' h2

/-! ### A world whose package variables hold what is known -/
def HoldsG (gl : GL) (w : World) : Prop :=
  ∀ x ∈ gl, x.1 < 64 ∧ ∃ (c : Array Value) (e : TypeId) (fr : Nat × Nat), w.heap[x.1]? = some (.cells c e fr) ∧ x.2.2.length ≤ c.size ∧ ∀ (j : Nat) (v : AV), x.2.2[j]? = some v → ∃ y : Value, c[j]? = some y ∧ ∀ (ρ : Env) (μ : Mu), VR ρ μ v y

def muW (w : World) : Mu := fun k => if k < 64 then some (k, 0, match w.heap[k]? with
  | some (.cells c _ _) => c.size
  | _ => 0) else none

theorem RelW {gl : GL} {w : World} (h : HoldsG gl w) : Rel ρ (muW w) (HG gl).get (HG gl).next w where
  blk := fun id b hb => by
    obtain ⟨e, cs, h1, rfl⟩ := HG_get hb
    obtain ⟨h2, c, e', fr, h3, h4, h5⟩ := h _ h1
    simp only at h2 h3 h4 h5
    refine ⟨(id, 0, c.size), _, by unfold muW; rw [if_pos h2, h3], h3, c, e', fr, rfl, rfl, by simpa using h4, (fun h => by cases h), fun j v hj hv => ?_⟩
    obtain ⟨y, g1, g2⟩ := h5 j v (puts_get hv)
    exact ⟨y, by simpa using g1, g2 _ _⟩
  inj := fun i j b b' p q hi hj hb => by
    rw [HG_own hi] at hb; cases hb
  fresh := fun id p h => by
    unfold muW at h
    split at h
    · rename_i hk; exact hk
    · cases h
  glob := fun k hk => ⟨_, by unfold muW; rw [if_pos hk]⟩

/-- It tells 'true'. -/
noncomputable def isT (pc : PC) (r : Res (AV × H)) : Bool :=
  match r with
  | .ok (.bool b, _) => (match dec pc b with
    | some true => true
    | _ => false)
  | _ => false

theorem isT_spec {r : Res (AV × H)} (hp : pc.holds ρ) (h : isT pc r = true) : ∃ b h', r = .ok (.bool b, h') ∧ b.den ρ = true := by
  unfold isT at h
  split at h
  · rename_i b h'
    refine ⟨b, h', rfl, ?_⟩
    split at h
    · rename_i hd
      exact dec_spec hp hd
    · cases h
  · cases h

/-- A function that tells 'true' under each of some cases, of which one is there. -/
theorem calls_cases {gl : GL} {k f : Nat} {as : List AV} {us : Array Value} {pcs : List PC} {w : World} (hm : P.follows .mixedOrders = true) (hX : ∀ pc, HooksOK P ρ X pc) (hx : X.ext f = none)
    (h : pcs.all (fun pc => isT pc (run P X pc k f as (HG gl))) = true) (hp : ∃ pc ∈ pcs, PC.holds ρ pc) (hv : VRs ρ (muW w) as us.toList) (hg : HoldsG gl w) :
    Calls P f us w fun e w' => e = .returned (.bool true) ∧ w.keptBut w' (fun _ => False) := by
  obtain ⟨pc, h1, h2⟩ := hp
  obtain ⟨b, h', h3, h4⟩ := isT_spec h2 (List.all_eq_true.1 h pc h1)
  refine (run_sound (hX pc) h2 hm (RelW hg) hv hx h3).mono ?_
  rintro e w' ⟨x, μ', rfl, h5, _, S, _⟩
  rw [VR] at h5
  subst h5
  exact ⟨by rw [h4], S.kept fun id b h => HG_own h⟩

end
end Go.Ev
