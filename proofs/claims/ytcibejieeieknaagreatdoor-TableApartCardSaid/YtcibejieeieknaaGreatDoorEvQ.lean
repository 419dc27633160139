/- Frames: temporaries, operations, regions in the text's order; no theorem of the program yet; no conditions. -/
import Derived.Test.YtcibejieeieknaaGreatDoorEvN
import Derived.RangeFuncLeaves
set_option linter.unusedSimpArgs false
set_option linter.unusedVariables false
namespace Go.Ev
section
variable {ρ : Env} {μ : Mu} {P : Program} {pc : PC} {w : World}

/-! ### The next number grows -/
theorem wr_next {h h' : H} {id off : Nat} {vs : List AV} (hr : wr h id off vs = .ok h') : h'.next = h.next := by
  unfold wr at hr
  split at hr
  · rcases cond_eq hr with ⟨_, h2⟩ | ⟨_, h2⟩
    · cases h2; rfl
    · cases h2
  · cases hr

theorem mapUpdate_next {h h' : H} {t : Nat} {m k v : AV} {r : Option AV} (hr : aMapUpdate P pc h t m k v = .ok (r, h')) : h.next ≤ h'.next := by
  unfold aMapUpdate at hr
  obtain ⟨ti, _, hr⟩ := Res.bind_eq_ok hr
  split at hr
  · obtain ⟨tk, _, hr⟩ := Res.bind_eq_ok hr
    rcases cond_eq hr with ⟨_, hr⟩ | ⟨_, hr⟩
    · obtain ⟨kn, _, hr⟩ := Res.bind_eq_ok hr
      split at hr
      · split at hr
        · obtain ⟨g, _, hr⟩ := Res.bind_eq_ok hr
          split at hr
          · cases hr; exact Nat.le_refl _
          · cases hr
        · cases hr
      · cases hr
    · cases hr
  · cases hr

theorem appendA_next {h h' : H} {e : Nat} {te : TI} {s x v : AV} (hr : appendA pc h e te s x = .ok (v, h')) : h.next ≤ h'.next := by
  unfold appendA at hr
  obtain ⟨n, _, hr⟩ := Res.bind_eq_ok hr
  obtain ⟨new, _, hr⟩ := Res.bind_eq_ok hr
  split at hr
  · rcases cond_eq hr with ⟨_, hr⟩ | ⟨_, hr⟩
    · cases hr; exact Nat.le_refl _
    · rcases cond_eq hr with ⟨_, hr⟩ | ⟨_, hr⟩
      · cases hr; exact Nat.le_succ _
      · cases hr
  · rcases cond_eq hr with ⟨_, hr⟩ | ⟨_, hr⟩
    · rcases cond_eq hr with ⟨_, hr⟩ | ⟨_, hr⟩
      · rcases cond_eq hr with ⟨_, hr⟩ | ⟨_, hr⟩
        · cases hr; exact Nat.le_refl _
        · obtain ⟨h'', h1, hr⟩ := Res.bind_eq_ok hr
          cases hr; exact Nat.le_of_eq (wr_next h1).symm
      · rcases cond_eq hr with ⟨_, hr⟩ | ⟨_, hr⟩
        · rcases cond_eq hr with ⟨_, hr⟩ | ⟨_, hr⟩
          · obtain ⟨old, _, hr⟩ := Res.bind_eq_ok hr
            cases hr; exact Nat.le_succ _
          · rcases cond_eq hr with ⟨_, hr⟩ | ⟨_, hr⟩
            · cases hr; exact Nat.le_refl _
            · split at hr
              · rcases cond_eq hr with ⟨_, hr⟩ | ⟨_, hr⟩
                · cases hr; exact Nat.le_succ _
                · cases hr
              · cases hr
        · cases hr
    · cases hr
  · cases hr

theorem copyA_next {h h' : H} {size n : Nat} {x d : AV} {r : Option AV} (hr : copyA pc h size n x d = .ok (r, h')) : h.next ≤ h'.next := by
  unfold copyA at hr
  split at hr
  · cases hr; exact Nat.le_refl _
  · cases hr; exact Nat.le_refl _
  · rcases cond_eq hr with ⟨_, hr⟩ | ⟨_, hr⟩
    · obtain ⟨new, _, hr⟩ := Res.bind_eq_ok hr
      rcases cond_eq hr with ⟨_, hr⟩ | ⟨_, hr⟩
      · cases hr; exact Nat.le_refl _
      · obtain ⟨h'', h1, hr⟩ := Res.bind_eq_ok hr
        cases hr; exact Nat.le_of_eq (wr_next h1).symm
    · cases hr
  · cases hr

theorem heap_next {h h' : H} {op : Op} {ea : Operand → Res AV} {f : H → Res (Option AV × H)} {r : Option AV} (hc : cls P pc ea op = .heap f) (hr : f h = .ok (r, h')) : h.next ≤ h'.next := by
  cases op with
  | call c =>
    have h0 : clsCall P pc ea c = .heap f := hc
    unfold clsCall at h0
    split at h0
    · unfold clsB at h0
      split at h0
      · cases h0
      · cases h0
      · cases h0
      · cases h0
      · injection h0 with h0
        subst h0
        obtain ⟨vs, _, hr⟩ := Res.bind_eq_ok hr
        unfold aAppend at hr
        split at hr
        · obtain ⟨ti, _, hr⟩ := Res.bind_eq_ok hr
          obtain ⟨tix, _, hr⟩ := Res.bind_eq_ok hr
          split at hr
          · obtain ⟨te, _, hr⟩ := Res.bind_eq_ok hr
            rcases cond_eq hr with ⟨_, hr⟩ | ⟨_, hr⟩
            · unfold zerosA at hr
              split at hr
              · obtain ⟨kn, _, hr⟩ := Res.bind_eq_ok hr
                split at hr
                · rcases cond_eq hr with ⟨_, hr⟩ | ⟨_, hr⟩
                  · cases hr; exact Nat.le_succ _
                  · cases hr
                · cases hr
              · cases hr
            rcases cond_eq hr with ⟨_, hr⟩ | ⟨_, hr⟩
            · obtain ⟨⟨v, h''⟩, h1, hr⟩ := Res.bind_eq_ok hr
              cases hr; exact appendA_next h1
            · cases hr
          · cases hr
        · cases hr
      · injection h0 with h0
        subst h0
        obtain ⟨vs, _, hr⟩ := Res.bind_eq_ok hr
        unfold aCopy at hr
        split at hr
        · obtain ⟨ti, _, hr⟩ := Res.bind_eq_ok hr
          split at hr
          · obtain ⟨te, _, hr⟩ := Res.bind_eq_ok hr
            obtain ⟨n, _, hr⟩ := Res.bind_eq_ok hr
            exact copyA_next hr
          · cases hr
        · cases hr
      · cases h0
    · cases h0
  | store t a x =>
    have h0 : Cls.heap (fun h => (ea a).bind fun p => (ea x).bind fun v => aStore P h t v p) = .heap f := hc
    injection h0 with h0
    subst h0
    obtain ⟨p, _, hr⟩ := Res.bind_eq_ok hr
    obtain ⟨v, _, hr⟩ := Res.bind_eq_ok hr
    unfold aStore at hr
    split at hr
    · obtain ⟨ti, _, hr⟩ := Res.bind_eq_ok hr
      rcases cond_eq hr with ⟨_, hr⟩ | ⟨_, hr⟩
      · obtain ⟨h'', h1, hr⟩ := Res.bind_eq_ok hr
        cases hr; exact Nat.le_of_eq (wr_next h1).symm
      · cases hr
    · cases hr
  | convert s d x =>
    have h0 : clsConv P pc ea s d x = .heap f := hc
    unfold clsConv at h0
    rcases cond_eq h0 with ⟨_, h1⟩ | ⟨_, h1⟩
    · cases h1
    · injection h1 with h1
      subst h1
      obtain ⟨v, _, hr⟩ := Res.bind_eq_ok hr
      unfold aConv at hr
      obtain ⟨ts, _, hr⟩ := Res.bind_eq_ok hr
      obtain ⟨td, _, hr⟩ := Res.bind_eq_ok hr
      split at hr
      · obtain ⟨te, _, hr⟩ := Res.bind_eq_ok hr
        rcases cond_eq hr with ⟨_, hr⟩ | ⟨_, hr⟩
        · unfold aToStr at hr
          split at hr
          · cases hr; exact Nat.le_refl _
          · cases hr; exact Nat.le_refl _
          · obtain ⟨cs, _, hr⟩ := Res.bind_eq_ok hr
            split at hr
            · cases hr; exact Nat.le_refl _
            · cases hr
          · cases hr
        · cases hr
      · obtain ⟨te, _, hr⟩ := Res.bind_eq_ok hr
        rcases cond_eq hr with ⟨_, hr⟩ | ⟨_, hr⟩
        · unfold aToBytes at hr
          split at hr
          · rcases cond_eq hr with ⟨_, hr⟩ | ⟨_, hr⟩
            · cases hr; exact Nat.le_succ _
            · cases hr
          · cases hr
        · cases hr
      · cases hr
  | makeMap t res =>
    have h0 : Cls.heap (fun h => aMakeMap h res) = .heap f := hc
    injection h0 with h0
    subst h0
    unfold aMakeMap at hr
    split at hr
    · cases hr; exact Nat.le_succ _
    · cases hr
  | insert t m k x =>
    have h0 : Cls.heap (fun h => (ea m).bind fun m => (ea k).bind fun k => (ea x).bind fun v => aMapUpdate P pc h t m k v) = .heap f := hc
    injection h0 with h0
    subst h0
    obtain ⟨vm, _, hr⟩ := Res.bind_eq_ok hr
    obtain ⟨vk, _, hr⟩ := Res.bind_eq_ok hr
    obtain ⟨vx, _, hr⟩ := Res.bind_eq_ok hr
    exact mapUpdate_next hr
  | mapUpdate t m k x =>
    have h0 : Cls.heap (fun h => (ea m).bind fun m => (ea k).bind fun k => (ea x).bind fun v => aMapUpdate P pc h t m k v) = .heap f := hc
    injection h0 with h0
    subst h0
    obtain ⟨vm, _, hr⟩ := Res.bind_eq_ok hr
    obtain ⟨vk, _, hr⟩ := Res.bind_eq_ok hr
    obtain ⟨vx, _, hr⟩ := Res.bind_eq_ok hr
    exact mapUpdate_next hr
  | lookup t m k ok =>
    have h0 : Cls.heap (fun h => (ea m).bind fun m => (ea k).bind fun k => aLookup P pc h t ok m k) = .heap f := hc
    injection h0 with h0
    subst h0
    obtain ⟨vm, _, hr⟩ := Res.bind_eq_ok hr
    obtain ⟨vk, _, hr⟩ := Res.bind_eq_ok hr
    unfold aLookup at hr
    obtain ⟨ti, _, hr⟩ := Res.bind_eq_ok hr
    split at hr
    · obtain ⟨tk, _, hr⟩ := Res.bind_eq_ok hr
      rcases cond_eq hr with ⟨_, hr⟩ | ⟨_, hr⟩
      · obtain ⟨kn, _, hr⟩ := Res.bind_eq_ok hr
        obtain ⟨es, _, hr⟩ := Res.bind_eq_ok hr
        obtain ⟨z, _, hr⟩ := Res.bind_eq_ok hr
        obtain ⟨g, _, hr⟩ := Res.bind_eq_ok hr
        cases hr; exact Nat.le_refl _
      · cases hr
    · cases hr
  | range t x =>
    have h0 : Cls.heap (fun h => (ea x).bind (aRange P h t)) = .heap f := hc
    injection h0 with h0
    subst h0
    obtain ⟨v, _, hr⟩ := Res.bind_eq_ok hr
    unfold aRange at hr
    obtain ⟨ti, _, hr⟩ := Res.bind_eq_ok hr
    split at hr
    · cases hr; exact Nat.le_succ _
    · cases hr
  | next it str =>
    cases str
    · cases hc
    · have h0 : Cls.heap (fun h => (ea it).bind (aNext h)) = .heap f := hc
      injection h0 with h0
      subst h0
      obtain ⟨v, _, hr⟩ := Res.bind_eq_ok hr
      unfold aNext at hr
      split at hr
      · split at hr
        · rcases cond_eq hr with ⟨_, hr⟩ | ⟨_, hr⟩
          · split at hr
            · rcases cond_eq hr with ⟨_, hr⟩ | ⟨_, hr⟩
              · cases hr; exact Nat.le_refl _
              · cases hr
            · cases hr
          · cases hr; exact Nat.le_refl _
        · cases hr
      · cases hr
  | _ => cases hc

/-! ### Temporaries -/
theorem assoc_cons (x : Nat × Option AV) (l : List (Nat × Option AV)) (t : Nat) : assoc (x :: l) t = if x.1 = t then x.2 else assoc l t := by
  show (Bool.rec (assoc l t) x.2 (Nat.beq x.1 t) : Option AV) = _
  by_cases h : x.1 = t
  · rw [if_pos h, beq_iff.2 h]
  · rw [if_neg h, beq_ne h]

theorem Tm.get_eq (m : Tm) (t : Nat) : m.get t = if bit m.mask t = true then m.tree.get t else assoc m.loc t := by
  unfold Tm.get
  cases bit m.mask t <;> rfl

theorem Tm.get_put (m : Tm) (d t : Nat) (v : Option AV) : (m.put d v).get t = if t = d then v else m.get t := by
  unfold Tm.put
  cases hb : bit m.mask d with
  | true =>
    show (pTree m d v).get t = _
    rw [Tm.get_eq, Tm.get_eq]
    simp only [pTree, T.get_set]
    by_cases h : t = d
    · subst h; simp [hb]
    · simp [h]
  | false =>
    show (pLoc m d v).get t = _
    rw [Tm.get_eq, Tm.get_eq]
    simp only [pLoc, assoc_cons]
    by_cases h : t = d
    · subst h; simp [hb]
    · have h' : ¬ d = t := fun e => h e.symm
      simp [h, h']

def TmR (ρ : Env) (μ : Mu) (m : Tm) (tmps : Array Value) : Prop := ∀ t v, m.get t = some v → ∃ x, tmps[t]? = some x ∧ VR ρ μ v x

theorem TmR_mono {μ' : Mu} (h : μ.le μ') {m : Tm} {tmps : Array Value} (hm : TmR ρ μ m tmps) : TmR ρ μ' m tmps := fun t v hv => let ⟨x, h1, h2⟩ := hm t v hv; ⟨x, h1, VR_mono h h2⟩

theorem evalA_spec {tm : Tm} {a : Act} {x : Operand} {v : AV} (hm : TmR ρ μ tm a.tmps) (hg : ∀ k, k < 64 → ∃ z, μ k = some (k, 0, z)) (h : evalA tm x = .ok v) : VR ρ μ v (a.eval x) := by
  cases x with
  | tmp t =>
    obtain ⟨x, h1, h2⟩ := hm t v (Res.ofO_eq_ok h)
    simp only [Act.eval, Array.getD_eq_getD_getElem?, h1, Option.getD_some]
    exact h2
  | const c => exact ofValue_spec (Res.ofO_eq_ok h)
  | global g =>
    have h0 : (Bool.rec (.fail "a global") (.ok (.ptr g 0)) (Nat.blt g 64) : Res AV) = .ok v := h
    cases hb : Nat.blt g 64 with
    | true =>
      rw [hb] at h0
      injection h0 with h0
      subst h0
      obtain ⟨z, hz⟩ := hg g (by simpa using hb)
      rw [VR]
      exact ⟨_, hz, rfl⟩
    | false => rw [hb] at h0; cases h0
  | func f =>
    have h0 : Res.ok (AV.func (.func f) [] []) = .ok v := h
    injection h0 with h0
    subst h0
    rw [VR]
    exact ⟨_, _, _, rfl, rfl, VRs_nil.2 rfl, VRs_nil.2 rfl⟩

theorem putA_spec {nt : Nat} {tm tm' : Tm} {a : Act} {dst : Option Nat} {v : Option AV} {x : Value} (hm : TmR ρ μ tm a.tmps) (hs : a.tmps.size = nt) (hv : ∀ b, v = some b → VR ρ μ b x) (h : putA nt tm dst v = .ok tm') :
    TmR ρ μ tm' (a.put dst x).tmps ∧ (a.put dst x).tmps.size = nt ∧ (a.put dst x).defers = a.defers ∧ tm'.mask = tm.mask := by
  cases dst with
  | none =>
    have h0 : Res.ok tm = .ok tm' := h
    cases h0
    exact ⟨hm, hs, rfl, rfl⟩
  | some d =>
    have h0 : (Bool.rec (.fail "a temporary beyond the frame's") (.ok (tm.put d v)) (Nat.blt d nt) : Res Tm) = .ok tm' := h
    cases hb : Nat.blt d nt with
    | false => rw [hb] at h0; cases h0
    | true =>
      rw [hb] at h0
      injection h0 with h0
      subst h0
      have hd : d < nt := by simpa using hb
      refine ⟨?_, by simp [Act.put, hs], rfl, by unfold Tm.put; cases bit tm.mask d <;> rfl⟩
      intro t b ht
      rw [Tm.get_put] at ht
      simp only [Act.put]
      by_cases e : t = d
      · subst e
        rw [if_pos rfl] at ht
        exact ⟨x, by rw [Array.getElem?_setIfInBounds_self_of_lt (by omega)], hv b ht⟩
      · rw [if_neg e] at ht
        rw [Array.getElem?_setIfInBounds_ne (fun h => e h.symm)]
        exact hm t b ht

theorem VR_undef : VR ρ μ (.tup []) undef := by
  rw [VR]
  exact ⟨#[], rfl, VRs_nil.2 rfl⟩

theorem wantA_spec (hp : pc.holds ρ) {ops : Array Oper} {tm : Tm} {tmps : Array Value} {o : Oper} {b : Bool} (hm : TmR ρ μ tm tmps) (h : wantA pc ops.toList tm o = .ok b) : Region.wanted o (yielded ops tmps) = b := by
  cases hg : o.guard with
  | none =>
    have h0 : (Option.rec (motive := fun _ => PC → List Oper → Tm → Res Bool) wNone wGuard o.guard pc ops.toList tm) = .ok b := h
    rw [hg] at h0
    have h1 : Res.ok true = .ok b := h0
    cases h1
    simp [Region.wanted, hg]
  | some g =>
    have h0 : (Option.rec (motive := fun _ => PC → List Oper → Tm → Res Bool) wNone wGuard o.guard pc ops.toList tm) = .ok b := h
    rw [hg] at h0
    have h1 : wGuard g pc ops.toList tm = .ok b := h0
    unfold wGuard at h1
    split at h1
    · cases h1
    · rename_i q hq
      split at h1
      · cases h1
      · rename_i d hd
        split at h1
        · rename_i c hc
          obtain ⟨t, h2, h3⟩ := Res.bind_eq_ok h1
          cases h3
          obtain ⟨x, h4, h5⟩ := hm d _ hc
          rw [VR, decR_spec hp h2] at h5
          subst h5
          rw [nth_eq, Array.getElem?_toList] at hq
          obtain ⟨gi, gb⟩ := g
          simp only at hq
          simp [Region.wanted, hg, yielded, hq, hd, h4]
        · rename_i hc
          cases h1
          obtain ⟨x, h4, h5⟩ := hm d _ hc
          rw [VR] at h5
          obtain ⟨ys, rfl, _⟩ := h5
          rw [nth_eq, Array.getElem?_toList] at hq
          obtain ⟨gi, gb⟩ := g
          simp only at hq
          simp [Region.wanted, hg, yielded, hq, hd, h4]
        · cases h1

end
end Go.Ev

/- Calls and operations; no theorem of the program yet; no conditions. -/
namespace Go.Ev

/-- The fence of a frame, which may be a round of a loop. -/
def fen (ro : Option Nat) : Fence := { Fence.wide with round := ro }

def FR (μ : Mu) (fr : Fr) (ro : Option Nat) : Prop :=
  match fr.round with
  | none => ro = none
  | some l => ∃ p, μ l = some p ∧ ro = some p.1

theorem FR_mono {μ μ' : Mu} (h : μ.le μ') {fr : Fr} {ro : Option Nat} (hf : FR μ fr ro) : FR μ' fr ro := by
  unfold FR at *
  split
  · rename_i e; rw [e] at hf; exact hf
  · rename_i l e; rw [e] at hf; obtain ⟨p, h1, h2⟩ := hf; exact ⟨p, h _ _ h1, h2⟩

/-- The marks among a frame's deferred calls. -/
def DR (μ : Mu) : List Nat → List Deferred → Prop
  | [], ds => ds = []
  | id :: r, ds => ∃ p ds', μ id = some p ∧ ds = { target := .collected p.1, args := #[] } :: ds' ∧ DR μ r ds'

theorem DR_mono {μ μ' : Mu} (h : μ.le μ') : ∀ {ms : List Nat} {ds : List Deferred}, DR μ ms ds → DR μ' ms ds
  | [], _, hd => hd
  | _ :: _, _, ⟨p, ds', h1, h2, h3⟩ => ⟨p, ds', h _ _ h1, h2, DR_mono h h3⟩

structure AR (ρ : Env) (μ : Mu) (fr : Fr) (tm : Tm) (ms : List Nat) (a : Act) : Prop where
  size : a.tmps.size = fr.nt
  tmr : TmR ρ μ tm a.tmps
  dfr : DR μ ms a.defers
  mask : tm.mask = fr.mask

theorem AR_mono {ρ : Env} {μ μ' : Mu} (h : μ.le μ') {fr : Fr} {tm : Tm} {ms : List Nat} {a : Act} (x : AR ρ μ fr tm ms a) : AR ρ μ' fr tm ms a := ⟨x.size, TmR_mono h x.tmr, DR_mono h x.dfr, x.mask⟩

theorem AR.tree {ρ : Env} {μ : Mu} {fr : Fr} {tm : Tm} {ms : List Nat} {a : Act} (x : AR ρ μ fr tm ms a) : AR ρ μ fr ⟨fr.mask, tm.tree, []⟩ ms a := by
  refine ⟨x.size, ?_, x.dfr, rfl⟩
  intro t v h
  rw [Tm.get_eq] at h
  simp only at h
  split at h
  · rename_i hb
    refine x.tmr t v ?_
    rw [Tm.get_eq, x.mask, if_pos hb]; exact h
  · cases h

def StR (ρ : Env) (μ : Mu) (fr : Fr) (st : St) (a : Act) (w : World) : Prop := AR ρ μ fr (tmOf fr st) st.marks a ∧ Rel ρ μ st.h.get st.h.next w

def Ex.exit' : Ex → Exit
  | .normal => .normal
  | .exit id => .exit id
  | .goto l => .goto l
  | .ret => .ret

def FnPost (ρ : Env) (μ : Mu) (h : H) (w : World) (v : AV) (h' : H) : Ending → World → Prop :=
  fun e w' => ∃ x μ', e = .returned x ∧ VR ρ μ' v x ∧ Rel ρ μ' h'.get h'.next w' ∧ Stp μ h.get h.next w μ' h'.get w' ∧ h.next ≤ h'.next

def CPost (ρ : Env) (μ : Mu) (fr : Fr) (st : St) (w : World) (x : Ex × St) : Exit → Act → World → Prop :=
  fun e a' w' => e = x.1.exit' ∧ ∃ μ', StR ρ μ' fr x.2 a' w' ∧ Stp μ st.h.get st.h.next w μ' x.2.h.get w' ∧ st.h.next ≤ x.2.h.next

section
variable (P : Program) (ρ : Env)

def FnOK (rf : List AV → H → Res (AV × H)) (f : Nat) : Prop :=
  ∀ args h v h', rf args h = .ok (v, h') →
    (∃ fn, P.funcs[f]? = some fn ∧ fn.body.isNone = false ∧ (fn.name == "runtime.NumGoroutine") = false) ∧
    ∀ μ w us, Rel ρ μ h.get h.next w → VRs ρ μ args us.toList → CallsIn Fence.wide 0 P f us w (FnPost ρ μ h w v h')

def CodeOK (rc : Fr → Code → St → Res (Ex × St)) : Prop :=
  ∀ fr c st x, rc fr c st = .ok x → ∀ μ ro a w, FR μ fr ro → StR ρ μ fr st a w → c.wpIn (fen ro) 0 P (CPost ρ μ fr st w x) a w

def LoopOK (rc : Fr → Code → St → Res (Ex × St)) : Prop :=
  ∀ fr c st x, rc fr c st = .ok x → ∀ μ ro a w, FR μ fr ro → StR ρ μ fr st a w → (Code.loop c).wpIn (fen ro) 0 P (CPost ρ μ fr st w x) a w

structure RecOK (r : Rec) : Prop where
  code : CodeOK P ρ r.code
  loop : LoopOK P ρ r.loop
  fn : ∀ f, FnOK P ρ (r.fn f) f

structure HooksOK (X : Hooks) (pc : PC) : Prop where
  sum : ∀ f g, X.sum f = some g → FnOK P ρ (g pc) f
  ext : ∀ f g, X.ext f = some g → ∀ args v, g pc args = .ok v → ∀ μ us w, VRs ρ μ args us.toList → ∃ y, (callFunc f us).run P w = .ok (.value y) w ∧ VR ρ μ v y
  mth : ∀ t name f, X.mth t name = some f → ∀ v w, (method (P.types.size + Made.depth) t v name).run P w = .ok (f, v) w
end

section
variable {ρ : Env} {μ : Mu} {P : Program} {pc : PC} {w : World} {X : Hooks} {r : Rec}

/-- What a call comes to. -/
def CallR (ρ : Env) (μ : Mu) (P : Program) (h : H) (w : World) (v : AV) (h' : H) (res : Result Next) : Prop :=
  (∃ y, res = .ok (.value y) w ∧ VR ρ μ v y ∧ h' = h) ∨
  (∃ f us, res = .ok (.enter f us) w ∧ CallsIn Fence.wide 0 P f us w (FnPost ρ μ h w v h')) ∨
  (∃ b f tmps as body, res = .ok (.round b f tmps as body) w ∧ RoundIn Fence.wide 0 P b f tmps as body w (FnPost ρ μ h w v h'))

theorem upon_of {h h' : H} {v : AV} {res : Result Next} {ro : Option Nat} {o : Oper} {a : Act} {next : Act → World → Prop} {Q : Exit → Act → World → Prop} (hc : CallR ρ μ P h w v h' res) (R : Rel ρ μ h.get h.next w)
    (K : ∀ x w' μ', Rel ρ μ' h'.get h'.next w' → Stp μ h.get h.next w μ' h'.get w' → h.next ≤ h'.next → VR ρ μ' v x → next (a.put o.dst x) w') : o.uponIn (fen ro) 0 P a next Q res := by
  rcases hc with ⟨y, rfl, hv, rfl⟩ | ⟨f, us, rfl, hcall⟩ | ⟨b, f, tmps, as, body, rfl, hround⟩
  · exact K y w μ R (Stp.refl _ _ _ _) (Nat.le_refl _) hv
  · refine ⟨(fun h => by cases h), ?_⟩
    refine CallsIn.mono (F := fen ro) (show CallsIn (fen ro) 0 P f us w (FnPost ρ μ h w v h') from hcall) ?_
    rintro e w' ⟨x, μ', rfl, h1, h2, h3, h4⟩
    exact K x w' μ' h2 h3 h4 h1
  · refine ⟨(fun h => by cases h), ?_⟩
    refine RoundIn.mono (F := fen ro) (show RoundIn (fen ro) 0 P b f tmps as body w (FnPost ρ μ h w v h') from hround) ?_
    rintro e w' ⟨x, μ', rfl, h1, h2, h3, h4⟩
    exact K x w' μ' h2 h3 h4 h1

theorem run_callFunc {f : Nat} {fn : Func} (us : Array Value) (h1 : P.funcs[f]? = some fn) (h2 : fn.body.isNone = false) (h3 : (fn.name == "runtime.NumGoroutine") = false) : (callFunc f us).run P w = .ok (.enter f us) w := by
  simp only [callFunc, Sem.run_bind, program, Sem.run, Result.andThen_ok, h1, h3, h2, Bool.false_eq_true, if_false, Sem.run_pure]

theorem callF_spec (rOK : RecOK P ρ r) (xOK : HooksOK P ρ X pc) {f : Nat} {args : List AV} {h h' : H} {v : AV} {us : Array Value} (R : Rel ρ μ h.get h.next w) (hv : VRs ρ μ args us.toList) (hr : callF X pc r f args h = .ok (v, h')) :
    CallR ρ μ P h w v h' ((callFunc f us).run P w) := by
  unfold callF at hr
  split at hr
  · rename_i g hg
    obtain ⟨⟨fn, h1, h2, h3⟩, h4⟩ := xOK.sum f g hg args h v h' hr
    exact .inr (.inl ⟨f, us, run_callFunc us h1 h2 h3, h4 μ w us R hv⟩)
  · split at hr
    · rename_i g hg
      obtain ⟨v', h1, h2⟩ := Res.bind_eq_ok hr
      cases h2
      obtain ⟨y, h3, h4⟩ := xOK.ext f g hg args v h1 μ us w hv
      exact .inl ⟨y, h3, h4, rfl⟩
    · obtain ⟨⟨fn, h1, h2, h3⟩, h4⟩ := rOK.fn f args h v h' hr
      exact .inr (.inl ⟨f, us, run_callFunc us h1 h2 h3, h4 μ w us R hv⟩)

theorem callE_spec (rOK : RecOK P ρ r) (xOK : HooksOK P ρ X pc) {f : Nat} {args : List AV} {h h' : H} {v : AV} {us : Array Value} (R : Rel ρ μ h.get h.next w) (hv : VRs ρ μ args us.toList) (hr : callE X pc r f args h = .ok (v, h')) :
    (∀ w, (callFunc f us).run P w = .ok (.enter f us) w) ∧ CallsIn Fence.wide 0 P f us w (FnPost ρ μ h w v h') := by
  unfold callE at hr
  split at hr
  · rename_i g hg
    obtain ⟨⟨fn, h1, h2, h3⟩, h4⟩ := xOK.sum f g hg args h v h' hr
    exact ⟨fun w => run_callFunc us h1 h2 h3, h4 μ w us R hv⟩
  · split at hr
    · cases hr
    · obtain ⟨⟨fn, h1, h2, h3⟩, h4⟩ := rOK.fn f args h v h' hr
      exact ⟨fun w => run_callFunc us h1 h2 h3, h4 μ w us R hv⟩

theorem setsA_spec {nt mask : Nat} : ∀ {ts : List Nat} {vs : List AV} {us : List Value} {tm tm' : T AV} {tmps : Array Value}, setsA tm nt mask ts vs = .ok tm' → VRs ρ μ vs us → tmps.size = nt → TmR ρ μ ⟨mask, tm, []⟩ tmps →
    ts.length = us.length ∧ ((ts.zip us).foldl (fun tmps (x : Nat × Value) => tmps.setIfInBounds x.1 x.2) tmps).size = nt ∧ TmR ρ μ ⟨mask, tm', []⟩ ((ts.zip us).foldl (fun tmps (x : Nat × Value) => tmps.setIfInBounds x.1 x.2) tmps) := by
  intro ts
  induction ts with
  | nil =>
    intro vs us tm tm' tmps h hv hs ht
    cases vs with
    | nil => cases h; rw [VRs_nil] at hv; subst hv; exact ⟨rfl, hs, ht⟩
    | cons v vs => cases h
  | cons t ts ih =>
    intro vs us tm tm' tmps h hv hs ht
    cases vs with
    | nil => cases h
    | cons v vs =>
      rw [VRs_cons] at hv
      obtain ⟨u, us, rfl, h1, h2⟩ := hv
      simp only [setsA] at h
      rcases cond_eq h with ⟨h3, h4⟩ | ⟨_, h4⟩
      · have h3 : t < nt := by simpa using h3
        obtain ⟨q1, q2, q3⟩ := ih (tmps := tmps.setIfInBounds t u) h4 h2 (by simp [hs]) (by
          intro j b hj
          rw [Tm.get_eq] at hj
          simp only at hj
          by_cases hb : bit mask j = true
          · rw [if_pos hb] at hj
            by_cases e : j = t
            · subst e
              rw [hb, cond_true, T.get_put, if_pos rfl] at hj
              cases hj
              exact ⟨u, by rw [Array.getElem?_setIfInBounds_self_of_lt (by omega)], h1⟩
            · have hj' : tm.get j = some b := by
                cases hbt : bit mask t with
                | true => rw [hbt, cond_true, T.get_put, if_neg e] at hj; exact hj
                | false => rw [hbt, cond_false] at hj; exact hj
              rw [Array.getElem?_setIfInBounds_ne (fun h => e h.symm)]
              exact ht j b (by rw [Tm.get_eq, if_pos hb]; exact hj')
          · rw [if_neg hb] at hj; cases hj)
        exact ⟨by simp [q1], q2, q3⟩
      · cases h4

theorem loop_put {l : Nat} {p : Loc} {h : H} {fn nt mask : Nat} {tm : T AV} {ps : List Nat} {assign body : Code} {s : LoopState} {pend : Option Code} {d : Nat} (s' : LoopState) (pend' : Option Code)
    (R : Rel ρ μ h.get h.next w) (hb : h.get l = some (.loop fn nt mask tm ps assign body s pend d)) (hp : μ l = some p) :
    ∃ L, w.heap[p.1]? = some (.loop L) ∧ L.state = s ∧ L.params.toList = ps ∧ L.assign = assign ∧ L.body = body ∧ L.pending = pend ∧ L.tmps.size = nt ∧ TmR ρ μ ⟨mask, tm, []⟩ L.tmps ∧
      Rel ρ μ (h.set l (.loop fn nt mask tm ps assign body s' pend' d)).get h.next (w.putObj p.1 (.loop { L with state := s', pending := pend' })) ∧
      Stp μ h.get h.next w μ (h.set l (.loop fn nt mask tm ps assign body s' pend' d)).get (w.putObj p.1 (.loop { L with state := s', pending := pend' })) := by
  obtain ⟨p', o, hp', ho, L, q, rfl, h2, h3, h4, h5, h6, h7, h8, h9, h10⟩ := R.blk _ _ hb
  rw [hp] at hp'
  cases hp'
  obtain ⟨q1, q2, q3⟩ := putObj_props (o' := .loop { L with state := s', pending := pend' }) ho
  obtain ⟨R', S⟩ := R.replace (b' := .loop fn nt mask tm ps assign body s' pend' d) hb rfl rfl hp q1 q2 q3 ⟨_, q, rfl, h2, h3, h4, rfl, rfl, h7, h8, h9, h10⟩ rfl rfl rfl (put_fz ho (fun _ _ _ h => by cases h) (fun _ _ _ h => by cases h))
  refine ⟨L, ho, h5, h2, h3, h4, h6, h9, ?_, by rw [H.get_set]; exact R', by rw [H.get_set]; exact S⟩
  intro t v ht
  rw [Tm.get_eq] at ht
  simp only at ht
  split at ht
  · rename_i hb; exact h10 t v hb ht
  · cases ht

theorem yieldA_spec (rOK : RecOK P ρ r) {l : Nat} {p : Loc} {args : List AV} {h h' : H} {v : AV} {us : Array Value} (R : Rel ρ μ h.get h.next w) (hp : μ l = some p) (hv : VRs ρ μ args us.toList) (hr : yieldA r l args h = .ok (v, h')) :
    CallR ρ μ P h w v h' ((Instr.yield p.1 us).run P w) := by
  unfold yieldA at hr
  split at hr
  · rename_i fn nt mask tm ps assign body pend d hb
    obtain ⟨tm1, h1, hr⟩ := Res.bind_eq_ok hr
    obtain ⟨⟨e1, st1⟩, h2, hr⟩ := Res.bind_eq_ok hr
    obtain ⟨L, hL, l1, l3, l4, l5, l6, l7, l8, _, _⟩ := loop_put .ready pend R hb hp
    obtain ⟨s1, s2, s3⟩ := setsA_spec h1 hv l7 l8
    refine .inr (.inr ⟨p.1, L.fn, (L.params.zip us).foldl (fun tmps (x : Nat × Value) => tmps.setIfInBounds x.1 x.2) L.tmps, L.assign, L.body, ?_, ?_⟩)
    · have hsz : us.size = L.params.size := by
        rw [← Array.length_toList, ← Array.length_toList, ← s1, l3]
      rw [run_yield hL hsz]
    · have hfold : (L.params.zip us).foldl (fun tmps (x : Nat × Value) => tmps.setIfInBounds x.1 x.2) L.tmps = (ps.zip us.toList).foldl (fun tmps (x : Nat × Value) => tmps.setIfInBounds x.1 x.2) L.tmps := by
        rw [← Array.foldl_toList, Array.toList_zip, l3]
      rw [hfold]
      refine roundIn_of_wpIn (F := Fence.wide) trivial ?_
      have hFR : FR μ { fn, nt, mask, round := some l } (some p.1) := ⟨p, hp, rfl⟩
      have hw := rOK.code _ _ _ _ h2 μ (some p.1) { tmps := (ps.zip us.toList).foldl (fun tmps (x : Nat × Value) => tmps.setIfInBounds x.1 x.2) L.tmps, defers := [] } w hFR ⟨⟨s2, s3, rfl, rfl⟩, R⟩
      rw [l4]
      refine wpIn_mono hw ?_
      rintro e a1 w1 ⟨he, μ1, ⟨A1, R1⟩, S1, n1⟩
      simp only at he hr A1 R1 S1 n1
      cases e1 <;> simp only at hr <;> first | (cases hr; done) | skip
      subst he
      simp only [Ex.exit', Exit.then]
      split at hr
      · rename_i fn' nt' mask' tm0 ps' assign' body0 pend' d' hb1
        obtain ⟨⟨e2, st2⟩, h3, hr⟩ := Res.bind_eq_ok hr
        have hp1 := S1.le _ _ hp
        obtain ⟨L1, k1, k2, _, _, _, k3, _, _, RB, SB⟩ := loop_put .busy pend' R1 hb1 hp1
        refine ⟨_, run_beginRound k1 k2, ?_⟩
        rw [l5]
        have hL1 : ({ L1 with state := .busy } : Loop) = { L1 with state := .busy, pending := pend' } := by rw [← k3]
        rw [hL1]
        have hw2 := rOK.code _ _ _ _ h3 μ1 (some p.1) a1 (w1.putObj p.1 (.loop { L1 with state := .busy, pending := pend' })) (FR_mono S1.le hFR) ⟨A1, RB⟩
        refine wpIn_mono hw2 ?_
        rintro e a2 w2 ⟨he, μ2, ⟨A2, R2⟩, S2, n2⟩
        simp only at he hr A2 R2 S2 n2
        split at hr
        · rename_i fn'' nt'' mask'' tm0' ps'' assign'' body'' s'' pend'' d'' hb2
          have hp2 := S2.le _ _ hp1
          have fin : ∀ (s : LoopState) (pn : Option Code) (b : Bool), v = .bool (.lit b) → h' = st2.h.set l (.loop fn'' nt'' mask'' tm0' ps'' assign'' body'' s pn d'') → s = (if pn.isNone then .ready else .done) → b = pn.isNone →
              ∃ y w3, (Instr.endRound p.1 pn).run P w2 = .ok y w3 ∧ FnPost ρ μ h w v h' (.returned y) w3 := by
            intro s pn b hv' hh' hs' hb'
            obtain ⟨L2, j1, _, _, _, _, _, _, _, R3, S3⟩ := loop_put s pn R2 hb2 hp2
            refine ⟨_, _, run_endRound pn j1, .bool b, μ2, by rw [hb'], by rw [hv', VR]; rfl, ?_, ?_, ?_⟩
            · rw [hh', ← hs']; exact R3
            · rw [hh', ← hs']
              exact Stp.trans (Stp.trans (Stp.trans S1 SB n1) S2 n1) S3 (Nat.le_trans n1 n2)
            · rw [hh']; exact Nat.le_trans n1 n2
          subst he
          cases e2 <;> simp only [Ex.exit', roundPost, Ex.code?, Res.ok.injEq, Prod.mk.injEq] at hr ⊢ <;> exact fin _ _ _ hr.1.symm hr.2.symm rfl rfl
        · cases hr
      · cases hr
  · cases hr

end
end Go.Ev

/- Operations, and regions in the text's order; no theorem of the program yet; no conditions. -/
namespace Go.Ev
section
variable {ρ : Env} {μ : Mu} {P : Program} {pc : PC} {w : World} {X : Hooks} {r : Rec}

theorem callO_spec (rOK : RecOK P ρ r) (xOK : HooksOK P ρ X pc) {c : Call} {ty : TypeId} {ea : Operand → Res AV} {rv : Operand → Value} {h h' : H} {v : AV} (R : Rel ρ μ h.get h.next w) (he : EaR ρ μ (.call c) ea rv)
    (hr : callO X pc r ea c h = .ok (v, h')) : CallR ρ μ P h w v h' ((do let d ← resolve rv c ty; invoke d.target d.args : Sem Next).run P w) := by
  unfold callO at hr
  obtain ⟨vs, h1, hr⟩ := Res.bind_eq_ok hr
  have hvs : VRs ρ μ vs (c.args.map rv).toList := by
    rw [Array.toList_map]
    exact argsA_spec (fun x hx a h => he x (by simp only [Op.operands, Call.operands]; exact Array.mem_append.2 (.inr (by simpa using hx))) a h) h1
  split at hr
  · rename_i f hf
    obtain ⟨fv, h2, hr⟩ := Res.bind_eq_ok hr
    have hfv := he f (by simp only [Op.operands, Call.operands, hf]; exact Array.mem_append.2 (.inl (by simp))) fv h2
    unfold callV at hr
    split at hr
    · rename_i g a b
      rw [VR] at hfv
      obtain ⟨g', a', b', h3, h4, h5, h6⟩ := hfv
      simp only [fnR] at h4
      subst h4
      have := callF_spec rOK xOK (us := (a' ++ c.args.map rv) ++ b') R (by rw [Array.toList_append, Array.toList_append]; exact VRs_append (VRs_append h5 hvs) h6) hr
      simpa [resolve, hf, h3, Deferred.ofValue, invoke] using this
    · rename_i l a b
      rw [VR] at hfv
      obtain ⟨g', a', b', h3, h4, h5, h6⟩ := hfv
      simp only [fnR] at h4
      obtain ⟨p, hp, rfl⟩ := h4
      have := yieldA_spec (P := P) rOK (us := a' ++ c.args.map rv) R hp (by rw [Array.toList_append]; exact VRs_append h5 hvs) hr
      simpa [resolve, hf, h3, Deferred.ofValue, invoke] using this
    · cases hr
  · rename_i x name hf
    obtain ⟨recv, h2, hr⟩ := Res.bind_eq_ok hr
    have hrv := he x (by simp only [Op.operands, Call.operands, hf]; exact Array.mem_append.2 (.inl (by simp))) recv h2
    unfold invokeA at hr
    split at hr
    · rename_i t y
      split at hr
      · rename_i f hm
        rw [VR] at hrv
        obtain ⟨y', h3, h4⟩ := hrv
        have := callF_spec rOK xOK (us := #[y'] ++ c.args.map rv) R (VRs_cons.2 ⟨y', (c.args.map rv).toList, by simp, h4, hvs⟩) hr
        have hex : (#[Value.iface t y'] ++ c.args.map rv).extract 1 (#[Value.iface t y'] ++ c.args.map rv).size = c.args.map rv := by
          generalize c.args.map rv = xs
          apply Array.ext_getElem?
          intro i
          simp only [Array.getElem?_extract]
          have e : (#[Value.iface t y'] ++ xs).size = 1 + xs.size := by simp
          by_cases hi : i < xs.size
          · rw [if_pos (by omega), Array.getElem?_append_right (by simp)]
            congr 1; simp
          · rw [if_neg (by omega), Array.getElem?_eq_none (by omega)]
        have h0 : (#[Value.iface t y'] ++ c.args.map rv)[0]? = some (.iface t y') := by rw [Array.getElem?_append_left (Nat.zero_lt_one)]; rfl
        have hm' := xOK.mth t name f hm y' w
        simp only [resolve, hf, h3, Sem.run_bind, Sem.run_pure, Result.andThen_ok, invoke]
        rw [h0, hex]
        simp only [callMethod, program, Sem.run_bind, Sem.run, Result.andThen_ok, hm']
        exact this
      · cases hr
    · cases hr
  · cases hr

theorem opA_spec (rOK : RecOK P ρ r) (xOK : HooksOK P ρ X pc) (hp : pc.holds ρ) {o : Oper} {ro : Option Nat} {ea : Operand → Res AV} {a : Act} {h h' : H} {v : Option AV} (R : Rel ρ μ h.get h.next w) (he : EaR ρ μ o.op ea a.eval)
    (hr : opA P X pc r ea h o.op = .ok (v, h')) {next : Act → World → Prop} {Q : Exit → Act → World → Prop}
    (K : ∀ x w' μ', Rel ρ μ' h'.get h'.next w' → Stp μ h.get h.next w μ' h'.get w' → h.next ≤ h'.next → (∀ b, v = some b → VR ρ μ' b x) → next (a.put o.dst x) w') : o.wpIn (fen ro) 0 P a w next Q := by
  refine ⟨fun _ _ => trivial, ?_⟩
  have sem : (∀ c, o.op ≠ .defer c) → o.semAt (fen ro).round a.eval = execOp a.eval o := fun hd => Oper.semAt_eq _ _ _ hd
  unfold opA opC at hr
  have nd : (∀ hc, cls P pc ea o.op = hc → hc ≠ .no) → ∀ c, o.op ≠ .defer c := by
    intro h1 c h2
    exact h1 .no (by rw [h2]; rfl) rfl
  cases hc : cls P pc ea o.op with
  | pure x =>
    rw [hc] at hr
    rw [sem (nd (fun y hy => by rw [hc] at hy; subst hy; simp))]
    have h0 : (x.bind fun v => .ok (some v, h)) = .ok (v, h') := hr
    obtain ⟨b, h1, h2⟩ := Res.bind_eq_ok h0
    cases h2
    subst h1
    obtain ⟨y, h3, h4⟩ := pure_spec (w := w) hp he hc
    rw [h3]
    exact K y w μ R (Stp.refl _ _ _ _) (Nat.le_refl _) fun c hc => by cases hc; exact h4
  | load f =>
    rw [hc] at hr
    rw [sem (nd (fun y hy => by rw [hc] at hy; subst hy; simp))]
    have h0 : ((f h).bind fun v => .ok (some v, h)) = .ok (v, h') := hr
    obtain ⟨b, h1, h2⟩ := Res.bind_eq_ok h0
    cases h2
    obtain ⟨y, h3, h4⟩ := load_spec R (fun _ _ _ _ _ _ _ _ hb => hb) he hc h1
    rw [h3]
    exact K y w μ R (Stp.refl _ _ _ _) (Nat.le_refl _) fun c hc => by cases hc; exact h4
  | alloc x =>
    rw [hc] at hr
    rw [sem (nd (fun y hy => by rw [hc] at hy; subst hy; simp))]
    have h0 : (x.bind fun x => .ok (some (x.2 h.next), h.new x.1)) = .ok (v, h') := hr
    obtain ⟨⟨b, mk⟩, h1, h2⟩ := Res.bind_eq_ok h0
    cases h2
    subst h1
    obtain ⟨c, e, y, h3, h4, h5⟩ := alloc_spec (w := w) hp he hc
    rw [h3]
    have hle : μ.le (upd μ h.next (some (w.heap.size, 0, c.size))) := by
      intro j q hj
      unfold upd
      split
      · rename_i e; subst e; rw [R.none_next] at hj; cases hj
      · exact hj
    have hid : upd μ h.next (some (w.heap.size, 0, c.size)) h.next = some (w.heap.size, 0, c.size) := by simp [upd]
    obtain ⟨h6, h7⟩ := h5 _ hle h.next hid
    obtain ⟨R', S⟩ := R.alloc (w' := w.alloc (.cells c e)) R.none_next (Nat.le_refl _) (Nat.lt_succ_self _) (Nat.le_succ _) (by simp) (fun k hk => heap_alloc_old w _ k hk) (heap_alloc_new w _) h6 rfl rfl rfl (fun a _ => RowKit.frozen?_alloc_cells w _ _ a)
    refine K y _ _ ?_ ?_ (Nat.le_succ _) fun c hc => by cases hc; exact h7
    · rw [H.get_new, H.next_new]; exact R'
    · rw [H.get_new]; exact S
  | heap f =>
    rw [hc] at hr
    rw [sem (nd (fun y hy => by rw [hc] at hy; subst hy; simp))]
    have h0 : f h = .ok (v, h') := hr
    obtain ⟨x, w', μ', h1, h2, h3, h4⟩ := heap_spec hp R he hc h0
    have hn := heap_next hc h0
    rcases h1 with h1 | ⟨h1, rfl⟩
    · rw [h1]; exact K x w' μ' h2 h3 hn h4
    · rw [h1]; exact K undef w' μ' h2 h3 hn h4
  | call c =>
    rw [hc] at hr
    rw [sem (nd (fun y hy => by rw [hc] at hy; subst hy; simp))]
    have h0 : ((callO X pc r ea c h).bind fun x => .ok (some x.1, x.2)) = .ok (v, h') := hr
    obtain ⟨⟨b, h''⟩, h1, h2⟩ := Res.bind_eq_ok h0
    cases h2
    have hop : o.op = .call c := by
      cases ho : o.op with
      | call c' =>
        rw [ho] at hc
        have h0 : clsCall P pc ea c' = .call c := hc
        unfold clsCall at h0
        split at h0
        · unfold clsB at h0; split at h0 <;> cases h0
        · cases h0; rfl
      | convert s d x =>
        rw [ho] at hc
        have h0 : clsConv P pc ea s d x = .call c := hc
        unfold clsConv at h0
        rcases cond_eq h0 with ⟨_, h1⟩ | ⟨_, h1⟩ <;> cases h1
      | next it str => rw [ho] at hc; cases str <;> cases hc
      | _ => rw [ho] at hc; cases hc
    rw [hop] at he
    have := callO_spec rOK xOK (ty := o.type) R he h1
    have hex : (execOp a.eval o).run P w = (do let d ← resolve a.eval c o.type; invoke d.target d.args : Sem Next).run P w := by simp only [execOp, hop]
    rw [hex]
    exact upon_of this R fun x w' μ' k1 k2 k3 k4 => K x w' μ' k1 k2 k3 fun c hc => by cases hc; exact k4
  | no =>
    rw [hc] at hr
    cases hr

/-- One operation of a region in the text's order. -/
theorem EaR_of {tm : Tm} {a : Act} {op : Op} (hm : TmR ρ μ tm a.tmps) (hg : ∀ k, k < 64 → ∃ z, μ k = some (k, 0, z)) : EaR ρ μ op (evalA tm) a.eval := fun _ _ _ h => evalA_spec hm hg h

theorem opsA_spec (rOK : RecOK P ρ r) (xOK : HooksOK P ρ X pc) (hp : pc.holds ρ) {fr : Fr} {ro : Option Nat} {ops : Array Oper} {ms : List Nat} {tm' : Tm} {h' : H} {Q : Exit → Act → World → Prop} : ∀ {l : List Oper} {k : Nat} {μ : Mu} {a : Act} {w : World} {tm : Tm} {h : H},
    AR ρ μ fr tm ms a → Rel ρ μ h.get h.next w → ops.toList.drop k = l → opsA P X pc r fr ops.toList l tm h = .ok (tm', h') →
    (∀ μ' a' w', AR ρ μ' fr tm' ms a' → Rel ρ μ' h'.get h'.next w' → Stp μ h.get h.next w μ' h'.get w' → h.next ≤ h'.next → Q .normal a' w') →
    wpOpsIn (fen ro) 0 P ops Q (List.range' k l.length) a w := by
  intro l
  induction l with
  | nil =>
    intro k μ a w tm h A R hl hr K
    have h0 : Res.ok (tm, h) = .ok (tm', h') := hr
    cases h0
    exact K μ a w A R (Stp.refl _ _ _ _) (Nat.le_refl _)
  | cons o l ih =>
    intro k μ a w tm h A R hl hr K
    have h0 : ((stepO P X pc r fr ops.toList o tm h).bind fun x => opsA P X pc r fr ops.toList l x.1 x.2) = .ok (tm', h') := hr
    obtain ⟨⟨tm1, h1⟩, h2, h3⟩ := Res.bind_eq_ok h0
    have ho : ops[k]? = some o := by
      have := congrArg (·[0]?) hl
      simpa using this
    have hl' : ops.toList.drop (k + 1) = l := by rw [← List.drop_drop, hl]; rfl
    simp only [List.length_cons, List.range'_succ, wpOpsIn, ho]
    unfold stepO at h2
    obtain ⟨b, h4, h5⟩ := Res.bind_eq_ok h2
    rw [wantA_spec hp A.tmr h4]
    cases b with
    | false =>
      have h5' : ((putA fr.nt tm o.dst (some (.tup []))).bind fun tm => .ok (tm, h)) = .ok (tm1, h1) := h5
      obtain ⟨tm2, h6, h7⟩ := Res.bind_eq_ok h5'
      cases h7
      obtain ⟨p1, p2, p3, p4⟩ := putA_spec (x := undef) A.tmr A.size (fun b hb => by cases hb; exact VR_undef) h6
      simp only [Bool.false_eq_true, if_false]
      exact ⟨fun _ _ => trivial, ih ⟨p2, p1, by rw [p3]; exact A.dfr, by rw [p4]; exact A.mask⟩ R hl' h3 K⟩
    | true =>
      have h5' : ((opA P X pc r (evalA tm) h o.op).bind fun x => (putA fr.nt tm o.dst x.1).bind fun tm => .ok (tm, x.2)) = .ok (tm1, h1) := h5
      obtain ⟨⟨v, h6⟩, h7, h8⟩ := Res.bind_eq_ok h5'
      obtain ⟨tm2, h9, h10⟩ := Res.bind_eq_ok h8
      cases h10
      simp only [if_true]
      refine opA_spec rOK xOK hp R (EaR_of A.tmr R.glob) h7 ?_
      intro x w1 μ1 R1 S1 n1 hv
      obtain ⟨p1, p2, p3, p4⟩ := putA_spec (x := x) (TmR_mono S1.le A.tmr) A.size hv h9
      exact ih ⟨p2, p1, by rw [p3]; exact DR_mono S1.le A.dfr, by rw [p4]; exact A.mask⟩ R1 hl' h3 fun μ' a' w' A' R' S' n' => K μ' a' w' A' R' (Stp.trans S1 S' n1) (Nat.le_trans n1 n')

end
end Go.Ev
