/- Frames: temporaries, operations, regions in the text's order; no theorem of the program yet; no conditions. -/
import Derived.Test.YtlngklpiapbpmaaEvP
import Derived.RangeFuncLeaves
set_option linter.unusedSimpArgs false
set_option linter.unusedVariables false
namespace Go.Ev
section
variable {ρ : Env} {μ : Mu} {P : Program} {pc : PC} {w : World}

/-! ### The next number grows -/
theorem wr_next {h h' : H} {id off : Nat} {vs : List AV} (hr : wr h id off vs = .ok h') : h'.next = h.next := by
  unfold wr at hr
  split at hr
  · rcases cond_eq hr with ⟨_, h2⟩ | ⟨_, h2⟩
    · cases h2; rfl
    · cases h2
  · cases hr

theorem mapUpdate_next {h h' : H} {t : Nat} {m k v : AV} {r : Option AV} (hr : aMapUpdate P pc h t m k v = .ok (r, h')) : h.next ≤ h'.next := by
  unfold aMapUpdate at hr
  obtain ⟨ti, _, hr⟩ := Res.bind_eq_ok hr
  split at hr
  · obtain ⟨tk, _, hr⟩ := Res.bind_eq_ok hr
    rcases cond_eq hr with ⟨_, hr⟩ | ⟨_, hr⟩
    · obtain ⟨kn, _, hr⟩ := Res.bind_eq_ok hr
      split at hr
      · split at hr
        · obtain ⟨g, _, hr⟩ := Res.bind_eq_ok hr
          split at hr
          · cases hr; exact Nat.le_refl _
          · cases hr
        · cases hr
      · cases hr
    · cases hr
  · cases hr

theorem appendA_next {h h' : H} {e : Nat} {te : TI} {s x v : AV} (hr : appendA pc h e te s x = .ok (v, h')) : h.next ≤ h'.next := by
  unfold appendA at hr
  obtain ⟨n, _, hr⟩ := Res.bind_eq_ok hr
  obtain ⟨new, _, hr⟩ := Res.bind_eq_ok hr
  split at hr
  · rcases cond_eq hr with ⟨_, hr⟩ | ⟨_, hr⟩
    · cases hr; exact Nat.le_refl _
    · rcases cond_eq hr with ⟨_, hr⟩ | ⟨_, hr⟩
      · cases hr; exact Nat.le_succ _
      · cases hr
  · rcases cond_eq hr with ⟨_, hr⟩ | ⟨_, hr⟩
    · rcases cond_eq hr with ⟨_, hr⟩ | ⟨_, hr⟩
      · rcases cond_eq hr with ⟨_, hr⟩ | ⟨_, hr⟩
        · cases hr; exact Nat.le_refl _
        · obtain ⟨h'', h1, hr⟩ := Res.bind_eq_ok hr
          cases hr; exact Nat.le_of_eq (wr_next h1).symm
      · rcases cond_eq hr with ⟨_, hr⟩ | ⟨_, hr⟩
        · rcases cond_eq hr with ⟨_, hr⟩ | ⟨_, hr⟩
          · obtain ⟨old, _, hr⟩ := Res.bind_eq_ok hr
            cases hr; exact Nat.le_succ _
          · rcases cond_eq hr with ⟨_, hr⟩ | ⟨_, hr⟩
            · cases hr; exact Nat.le_refl _
            · split at hr
              · rcases cond_eq hr with ⟨_, hr⟩ | ⟨_, hr⟩
                · cases hr; exact Nat.le_succ _
                · cases hr
              · cases hr
        · cases hr
    · cases hr
  · cases hr

theorem copyA_next {h h' : H} {size n : Nat} {x d : AV} {r : Option AV} (hr : copyA pc h size n x d = .ok (r, h')) : h.next ≤ h'.next := by
  unfold copyA at hr
  split at hr
  · cases hr; exact Nat.le_refl _
  · cases hr; exact Nat.le_refl _
  · rcases cond_eq hr with ⟨_, hr⟩ | ⟨_, hr⟩
    · obtain ⟨new, _, hr⟩ := Res.bind_eq_ok hr
      rcases cond_eq hr with ⟨_, hr⟩ | ⟨_, hr⟩
      · cases hr; exact Nat.le_refl _
      · obtain ⟨h'', h1, hr⟩ := Res.bind_eq_ok hr
        cases hr; exact Nat.le_of_eq (wr_next h1).symm
    · cases hr
  · cases hr

theorem heap_next {h h' : H} {op : Op} {ea : Operand → Res AV} {f : H → Res (Option AV × H)} {r : Option AV} (hc : cls P pc ea op = .heap f) (hr : f h = .ok (r, h')) : h.next ≤ h'.next := by
  cases op with
  | call c =>
    have h0 : clsCall P pc ea c = .heap f := hc
    unfold clsCall at h0
    split at h0
    · unfold clsB at h0
      split at h0
      · cases h0
      · cases h0
      · cases h0
      · cases h0
      · injection h0 with h0
        subst h0
        obtain ⟨vs, _, hr⟩ := Res.bind_eq_ok hr
        unfold aAppend at hr
        split at hr
        · obtain ⟨ti, _, hr⟩ := Res.bind_eq_ok hr
          obtain ⟨tix, _, hr⟩ := Res.bind_eq_ok hr
          split at hr
          · obtain ⟨te, _, hr⟩ := Res.bind_eq_ok hr
            rcases cond_eq hr with ⟨_, hr⟩ | ⟨_, hr⟩
            · unfold zerosA at hr
              split at hr
              · obtain ⟨kn, _, hr⟩ := Res.bind_eq_ok hr
                split at hr
                · rcases cond_eq hr with ⟨_, hr⟩ | ⟨_, hr⟩
                  · cases hr; exact Nat.le_succ _
                  · cases hr
                · cases hr
              · cases hr
            rcases cond_eq hr with ⟨_, hr⟩ | ⟨_, hr⟩
            · obtain ⟨⟨v, h''⟩, h1, hr⟩ := Res.bind_eq_ok hr
              cases hr; exact appendA_next h1
            · cases hr
          · cases hr
        · cases hr
      · injection h0 with h0
        subst h0
        obtain ⟨vs, _, hr⟩ := Res.bind_eq_ok hr
        unfold aCopy at hr
        split at hr
        · obtain ⟨ti, _, hr⟩ := Res.bind_eq_ok hr
          split at hr
          · obtain ⟨te, _, hr⟩ := Res.bind_eq_ok hr
            obtain ⟨n, _, hr⟩ := Res.bind_eq_ok hr
            exact copyA_next hr
          · cases hr
        · cases hr
      · cases h0
    · cases h0
  | store t a x =>
    have h0 : Cls.heap (fun h => (ea a).bind fun p => (ea x).bind fun v => aStore P h t v p) = .heap f := hc
    injection h0 with h0
    subst h0
    obtain ⟨p, _, hr⟩ := Res.bind_eq_ok hr
    obtain ⟨v, _, hr⟩ := Res.bind_eq_ok hr
    unfold aStore at hr
    split at hr
    · obtain ⟨ti, _, hr⟩ := Res.bind_eq_ok hr
      rcases cond_eq hr with ⟨_, hr⟩ | ⟨_, hr⟩
      · obtain ⟨h'', h1, hr⟩ := Res.bind_eq_ok hr
        cases hr; exact Nat.le_of_eq (wr_next h1).symm
      · cases hr
    · cases hr
  | convert s d x =>
    have h0 : clsConv P pc ea s d x = .heap f := hc
    unfold clsConv at h0
    rcases cond_eq h0 with ⟨_, h1⟩ | ⟨_, h1⟩
    · cases h1
    · injection h1 with h1
      subst h1
      obtain ⟨v, _, hr⟩ := Res.bind_eq_ok hr
      unfold aConv at hr
      obtain ⟨ts, _, hr⟩ := Res.bind_eq_ok hr
      obtain ⟨td, _, hr⟩ := Res.bind_eq_ok hr
      split at hr
      · obtain ⟨te, _, hr⟩ := Res.bind_eq_ok hr
        rcases cond_eq hr with ⟨_, hr⟩ | ⟨_, hr⟩
        · unfold aToStr at hr
          split at hr
          · cases hr; exact Nat.le_refl _
          · cases hr; exact Nat.le_refl _
          · obtain ⟨cs, _, hr⟩ := Res.bind_eq_ok hr
            split at hr
            · cases hr; exact Nat.le_refl _
            · cases hr
          · cases hr
        · cases hr
      · obtain ⟨te, _, hr⟩ := Res.bind_eq_ok hr
        rcases cond_eq hr with ⟨_, hr⟩ | ⟨_, hr⟩
        · unfold aToBytes at hr
          split at hr
          · rcases cond_eq hr with ⟨_, hr⟩ | ⟨_, hr⟩
            · cases hr; exact Nat.le_succ _
            · cases hr
          · cases hr
        · cases hr
      · cases hr
  | makeMap t res =>
    have h0 : Cls.heap (fun h => aMakeMap h res) = .heap f := hc
    injection h0 with h0
    subst h0
    unfold aMakeMap at hr
    split at hr
    · cases hr; exact Nat.le_succ _
    · cases hr
  | insert t m k x =>
    have h0 : Cls.heap (fun h => (ea m).bind fun m => (ea k).bind fun k => (ea x).bind fun v => aMapUpdate P pc h t m k v) = .heap f := hc
    injection h0 with h0
    subst h0
    obtain ⟨vm, _, hr⟩ := Res.bind_eq_ok hr
    obtain ⟨vk, _, hr⟩ := Res.bind_eq_ok hr
    obtain ⟨vx, _, hr⟩ := Res.bind_eq_ok hr
    exact mapUpdate_next hr
  | mapUpdate t m k x =>
    have h0 : Cls.heap (fun h => (ea m).bind fun m => (ea k).bind fun k => (ea x).bind fun v => aMapUpdate P pc h t m k v) = .heap f := hc
    injection h0 with h0
    subst h0
    obtain ⟨vm, _, hr⟩ := Res.bind_eq_ok hr
    obtain ⟨vk, _, hr⟩ := Res.bind_eq_ok hr
    obtain ⟨vx, _, hr⟩ := Res.bind_eq_ok hr
    exact mapUpdate_next hr
  | lookup t m k ok =>
    have h0 : Cls.heap (fun h => (ea m).bind fun m => (ea k).bind fun k => aLookup P pc h t ok m k) = .heap f := hc
    injection h0 with h0
    subst h0
    obtain ⟨vm, _, hr⟩ := Res.bind_eq_ok hr
    obtain ⟨vk, _, hr⟩ := Res.bind_eq_ok hr
    unfold aLookup at hr
    obtain ⟨ti, _, hr⟩ := Res.bind_eq_ok hr
    split at hr
    · obtain ⟨tk, _, hr⟩ := Res.bind_eq_ok hr
      rcases cond_eq hr with ⟨_, hr⟩ | ⟨_, hr⟩
      · obtain ⟨kn, _, hr⟩ := Res.bind_eq_ok hr
        obtain ⟨es, _, hr⟩ := Res.bind_eq_ok hr
        obtain ⟨z, _, hr⟩ := Res.bind_eq_ok hr
        obtain ⟨g, _, hr⟩ := Res.bind_eq_ok hr
        cases hr; exact Nat.le_refl _
      · cases hr
    · cases hr
  | range t x =>
    have h0 : Cls.heap (fun h => (ea x).bind (aRange P h t)) = .heap f := hc
    injection h0 with h0
    subst h0
    obtain ⟨v, _, hr⟩ := Res.bind_eq_ok hr
    unfold aRange at hr
    obtain ⟨ti, _, hr⟩ := Res.bind_eq_ok hr
    split at hr
    · cases hr; exact Nat.le_succ _
    · cases hr
  | next it str =>
    cases str
    · cases hc
    · have h0 : Cls.heap (fun h => (ea it).bind (aNext h)) = .heap f := hc
      injection h0 with h0
      subst h0
      obtain ⟨v, _, hr⟩ := Res.bind_eq_ok hr
      unfold aNext at hr
      split at hr
      · split at hr
        · rcases cond_eq hr with ⟨_, hr⟩ | ⟨_, hr⟩
          · split at hr
            · rcases cond_eq hr with ⟨_, hr⟩ | ⟨_, hr⟩
              · cases hr; exact Nat.le_refl _
              · cases hr
            · cases hr
          · cases hr; exact Nat.le_refl _
        · cases hr
      · cases hr
  | _ => cases hc

/-! ### Temporaries -/
theorem assoc_cons (x : Nat × Option AV) (l : List (Nat × Option AV)) (t : Nat) : assoc (x :: l) t = if x.1 = t then x.2 else assoc l t := by
  show (Bool.rec (assoc l t) x.2 (Nat.beq x.1 t) : Option AV) = _
  by_cases h : x.1 = t
  · rw [if_pos h, beq_iff.2 h]
  · rw [if_neg h, beq_ne h]

theorem Tm.get_eq (m : Tm) (t : Nat) : m.get t = if bit m.mask t = true then m.tree.get t else assoc m.loc t := by
  unfold Tm.get
  cases bit m.mask t <;> rfl

theorem Tm.get_put (m : Tm) (d t : Nat) (v : Option AV) : (m.put d v).get t = if t = d then v else m.get t := by
  unfold Tm.put
  cases hb : bit m.mask d with
  | true =>
    show (pTree m d v).get t = _
    rw [Tm.get_eq, Tm.get_eq]
    simp only [pTree, T.get_set]
    by_cases h : t = d
    · subst h; simp [hb]
    · simp [h]
  | false =>
    show (pLoc m d v).get t = _
    rw [Tm.get_eq, Tm.get_eq]
    simp only [pLoc, assoc_cons]
    by_cases h : t = d
    · subst h; simp [hb]
    · have h' : ¬ d = t := fun e => h e.symm
      simp [h, h']

def TmR (ρ : Env) (μ : Mu) (m : Tm) (tmps : Array Value) : Prop := ∀ t v, m.get t = some v → ∃ x, tmps[t]? = some x ∧ VR ρ μ v x

theorem TmR_mono {μ' : Mu} (h : μ.le μ') {m : Tm} {tmps : Array Value} (hm : TmR ρ μ m tmps) : TmR ρ μ' m tmps := fun t v hv => let ⟨x, h1, h2⟩ := hm t v hv; ⟨x, h1, VR_mono h h2⟩

theorem evalA_spec {tm : Tm} {a : Act} {x : Operand} {v : AV} (hm : TmR ρ μ tm a.tmps) (hg : ∀ k, k < 64 → ∃ z, μ k = some (k, 0, z)) (h : evalA tm x = .ok v) : VR ρ μ v (a.eval x) := by
  cases x with
  | tmp t =>
    obtain ⟨x, h1, h2⟩ := hm t v (Res.ofO_eq_ok h)
    simp only [Act.eval, Array.getD_eq_getD_getElem?, h1, Option.getD_some]
    exact h2
  | const c => exact ofValue_spec (Res.ofO_eq_ok h)
  | global g =>
    have h0 : (Bool.rec (.fail "a global") (.ok (.ptr g 0)) (Nat.blt g 64) : Res AV) = .ok v := h
    cases hb : Nat.blt g 64 with
    | true =>
      rw [hb] at h0
      injection h0 with h0
      subst h0
      obtain ⟨z, hz⟩ := hg g (by simpa using hb)
      rw [VR]
      exact ⟨_, hz, rfl⟩
    | false => rw [hb] at h0; cases h0
  | func f =>
    have h0 : Res.ok (AV.func (.func f) [] []) = .ok v := h
    injection h0 with h0
    subst h0
    rw [VR]
    exact ⟨_, _, _, rfl, rfl, VRs_nil.2 rfl, VRs_nil.2 rfl⟩

theorem putA_spec {nt : Nat} {tm tm' : Tm} {a : Act} {dst : Option Nat} {v : Option AV} {x : Value} (hm : TmR ρ μ tm a.tmps) (hs : a.tmps.size = nt) (hv : ∀ b, v = some b → VR ρ μ b x) (h : putA nt tm dst v = .ok tm') :
    TmR ρ μ tm' (a.put dst x).tmps ∧ (a.put dst x).tmps.size = nt ∧ (a.put dst x).defers = a.defers ∧ tm'.mask = tm.mask := by
  cases dst with
  | none =>
    have h0 : Res.ok tm = .ok tm' := h
    cases h0
    exact ⟨hm, hs, rfl, rfl⟩
  | some d =>
    have h0 : (Bool.rec (.fail "a temporary beyond the frame's") (.ok (tm.put d v)) (Nat.blt d nt) : Res Tm) = .ok tm' := h
    cases hb : Nat.blt d nt with
    | false => rw [hb] at h0; cases h0
    | true =>
      rw [hb] at h0
      injection h0 with h0
      subst h0
      have hd : d < nt := by simpa using hb
      refine ⟨?_, by simp [Act.put, hs], rfl, by unfold Tm.put; cases bit tm.mask d <;> rfl⟩
      intro t b ht
      rw [Tm.get_put] at ht
      simp only [Act.put]
      by_cases e : t = d
      · subst e
        rw [if_pos rfl] at ht
        exact ⟨x, by rw [Array.getElem?_setIfInBounds_self_of_lt (by omega)], hv b ht⟩
      · rw [if_neg e] at ht
        rw [Array.getElem?_setIfInBounds_ne (fun h => e h.symm)]
        exact hm t b ht

theorem VR_undef : VR ρ μ (.tup []) undef := by
  rw [VR]
  exact ⟨#[], rfl, VRs_nil.2 rfl⟩

theorem wantA_spec (hp : pc.holds ρ) {ops : Array Oper} {tm : Tm} {tmps : Array Value} {o : Oper} {b : Bool} (hm : TmR ρ μ tm tmps) (h : wantA pc ops.toList tm o = .ok b) : Region.wanted o (yielded ops tmps) = b := by
  cases hg : o.guard with
  | none =>
    have h0 : (Option.rec (motive := fun _ => PC → List Oper → Tm → Res Bool) wNone wGuard o.guard pc ops.toList tm) = .ok b := h
    rw [hg] at h0
    have h1 : Res.ok true = .ok b := h0
    cases h1
    simp [Region.wanted, hg]
  | some g =>
    have h0 : (Option.rec (motive := fun _ => PC → List Oper → Tm → Res Bool) wNone wGuard o.guard pc ops.toList tm) = .ok b := h
    rw [hg] at h0
    have h1 : wGuard g pc ops.toList tm = .ok b := h0
    unfold wGuard at h1
    split at h1
    · cases h1
    · rename_i q hq
      split at h1
      · cases h1
      · rename_i d hd
        split at h1
        · rename_i c hc
          obtain ⟨t, h2, h3⟩ := Res.bind_eq_ok h1
          cases h3
          obtain ⟨x, h4, h5⟩ := hm d _ hc
          rw [VR, decR_spec hp h2] at h5
          subst h5
          rw [nth_eq, Array.getElem?_toList] at hq
          obtain ⟨gi, gb⟩ := g
          simp only at hq
          simp [Region.wanted, hg, yielded, hq, hd, h4]
        · rename_i hc
          cases h1
          obtain ⟨x, h4, h5⟩ := hm d _ hc
          rw [VR] at h5
          obtain ⟨ys, rfl, _⟩ := h5
          rw [nth_eq, Array.getElem?_toList] at hq
          obtain ⟨gi, gb⟩ := g
          simp only at hq
          simp [Region.wanted, hg, yielded, hq, hd, h4]
        · cases h1

end
end Go.Ev
