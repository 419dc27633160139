/- The evaluator's append and copy are the model's; no theorem of the program yet; no conditions. -/
import Derived.Test.YtlngklpiapbpmaaEvO
set_option linter.unusedSimpArgs false
set_option linter.unusedVariables false
namespace Go.Ev
section
variable {ρ : Env} {μ : Mu} {P : Program} {pc : PC} {w : World}

theorem appendA_spec {ts : Array TypeId} {us : Array Value} {t tx e ty : TypeId} {dx : TypeDesc} {te : TI} {h h' : H} {s x v : AV} {sv xv : Value} (hp : pc.holds ρ) (R : Rel ρ μ h.get h.next w)
    (h0 : ts[0]? = some t) (h1 : ts[1]? = some tx) (h2 : us[0]? = some sv) (h3 : us[1]? = some xv) (ht : P.underlying t = some (.slice e)) (hx : P.underlying tx = some dx) (hni : (∃ k, dx = .slice k) ∨ dx = .string)
    (he : tinfo P e = some te) (he1 : 1 ≤ te.size) (hez : te.zero.length = te.size) (hs : VR ρ μ s sv) (hxv : VR ρ μ x xv) (hr : appendA pc h e te s x = .ok (v, h')) :
    ∃ y w' μ', (Builtin.append_ ts ty us).run P w = .ok y w' ∧ Rel ρ μ' h'.get h'.next w' ∧ Stp μ h.get h.next w μ' h'.get w' ∧ VR ρ μ' v y := by
  unfold appendA at hr
  obtain ⟨n, hn, hr1⟩ := Res.bind_eq_ok hr
  obtain ⟨new, hnew, hr2⟩ := Res.bind_eq_ok hr1
  clear hr hr1
  have hlen : ∀ w, (Builtin.lenOf xv).run P w = .ok n w := fun w => lenOfA_spec hxv hn
  obtain ⟨news, hf, hnv, hnl⟩ := firstA_spec (P := P) hp R hxv hn (Nat.le_refl _) hnew
  obtain ⟨news', hf', hnv', hnl'⟩ := firstA_spec (P := P) hp R.drew hxv hn (Nat.le_refl _) hnew
  have hnewl := VRs_length hnv
  split at hr2
  · rw [VR] at hs
    subst hs
    rcases cond_eq hr2 with ⟨h4, h5⟩ | ⟨h4, h5⟩
    · cases h5
      have := beq_eq h4
      subst this
      exact ⟨_, w, μ, app_room (w' := w) h0 h1 h2 h3 ht hx hni hlen he hf (by omega) (fun a ha => by cases ha) (fun _ => rfl), R, Stp.refl _ _ _ _, by rw [VR]⟩
    · have hn0 : n ≠ 0 := fun e => by subst e; simp at h4
      rcases cond_eq h5 with ⟨h6, h7⟩ | ⟨_, h7⟩
      · cases h7
        simp only [Bool.and_eq_true] at h6
        have b1 : n * te.bytes ≤ 140737488355328 := by simpa using h6.1
        have b2 : n ≤ 140737488355328 := by simpa using h6.2
        obtain ⟨cap, z, a1, a2, a3⟩ := app_grow (ρ := ρ) (μ := μ) (ty := ty) (olds := []) h0 h1 h2 h3 ht hx hni hlen he (by simp [Builtin.firstCells]) hf' (by omega) (by simpa using b1) (by omega)
        simp only [Array.empty_append, List.nil_append, Nat.zero_add] at a1 a2
        obtain ⟨μ', r1, r2, r3⟩ := R.open (e := e) (rest := Builtin.zeroCells z (cap - n)) hnv'
        refine ⟨_, _, μ', by simpa using a1, by rw [H.get_new, H.next_new]; exact r1, by rw [H.get_new]; exact r2, ?_⟩
        rw [VR]
        refine ⟨_, cap, r3, rfl, (fun e => by cases e), a2, Nat.le_refl _, ?_⟩
        have hz := VRs_size a3
        simp only [Array.size_append, List.size_toArray, zeroCells_size, hnl', ← hz, hez, Nat.zero_add]
        rw [← Nat.add_mul]
        exact Nat.mul_le_mul_right _ (by omega)
      · cases h7
  · rename_i id off len ex cap es
    rcases cond_eq hr2 with ⟨h4, h5⟩ | ⟨_, h5⟩
    · have hes := beq_eq h4
      have hs0 := hs
      rw [VR] at hs
      obtain ⟨p, c, hpid, rfl, g1, g2, g3, g4⟩ := hs
      have nothing : n = 0 → ∃ y w' μ', (Builtin.append_ ts ty us).run P w = .ok y w' ∧ Rel ρ μ' h.get h.next w' ∧ Stp μ h.get h.next w μ' h.get w' ∧ VR ρ μ' (.slc id off len ex cap es) y := by
        intro e0
        subst e0
        have : news = [] := List.eq_nil_of_length_eq_zero (by omega)
        subst this
        exact ⟨_, w, μ, app_room (w' := w) h0 h1 h2 h3 ht hx hni hlen he hf (by omega) (fun a ha => by simp [storeCells]) (fun _ => rfl), R, Stp.refl _ _ _ _, hs0⟩
      rcases cond_eq h5 with ⟨h6, h7⟩ | ⟨h6, h7⟩
      · have h6 : len + n ≤ cap := by simpa using h6
        rcases cond_eq h7 with ⟨h8, h9⟩ | ⟨_, h9⟩
        · cases h9
          exact nothing (beq_eq h8)
        · obtain ⟨h'', h10, h11⟩ := Res.bind_eq_ok h9
          cases h11
          obtain ⟨p', cc, e', w', q1, q2, q3, q4, q5, q6, q7, q8, q9, q10⟩ := wr_spec (P := P) R hnv h10
          rw [hpid] at q1
          cases q1
          refine ⟨_, w', μ, app_room (w' := w') h0 h1 h2 h3 ht hx hni hlen he hf (by omega) ?_ (fun h => by cases h), by rw [q8]; exact q9, q10, ?_⟩
          · intro a ha
            cases ha
            rw [addr_add, q2, Nat.zero_add, ← hes]
            exact q7
          · rw [VR]
            exact ⟨p, c, hpid, rfl, g1, g2, h6, g4⟩
      · have h6 : ¬ (len + n ≤ cap) := by have : ¬ (Nat.ble (len + n) cap = true) := by simp [h6]
                                          simpa using this
        rcases cond_eq h7 with ⟨h8, h9⟩ | ⟨_, h9⟩
        · simp only [Bool.and_eq_true] at h8
          have b1 : (len + n) * te.bytes ≤ 140737488355328 := by simpa using h8.1
          have b2 : len + n ≤ 140737488355328 := by simpa using h8.2
          rcases cond_eq h9 with ⟨h10, h11⟩ | ⟨h10, h11⟩
          · subst h10
            have := g1 rfl
            subst this
            obtain ⟨old, h12, h13⟩ := Res.bind_eq_ok h11
            cases h13
            obtain ⟨olds, o1, o2, o3⟩ := firstA_spec (P := P) (size := te.size) (n := len) (a := .slc id off len true c es) hp R.drew hs0 rfl (Nat.le_refl _) (by simp only [firstA]; rw [← hes]; exact h12)
            obtain ⟨cap', z, a1, a2, a3⟩ := app_grow (ρ := ρ) (μ := μ) (ty := ty) h0 h1 h2 h3 ht hx hni hlen he o1 hf' (by omega) b1 b2
            obtain ⟨μ', r1, r2, r3⟩ := R.open (e := e) (rest := Builtin.zeroCells z (cap' - (len + n))) (VRs_append o2 hnv')
            refine ⟨_, _, μ', by simpa using a1, by rw [H.get_new, H.next_new]; simpa using r1, by rw [H.get_new]; simpa using r2, ?_⟩
            rw [VR]
            refine ⟨_, cap', r3, rfl, (fun e => by cases e), a2, Nat.le_refl _, ?_⟩
            have hz := VRs_size a3
            simp only [Array.size_append, List.size_toArray, List.length_append, zeroCells_size, hnl', o3, ← hz, hez, Nat.zero_add, hes]
            rw [← Nat.add_mul, ← Nat.add_mul]
            exact Nat.mul_le_mul_right _ (by omega)
          · subst h10
            rcases cond_eq h11 with ⟨h12, h13⟩ | ⟨_, h13⟩
            · cases h13
              exact nothing (beq_eq h12)
            · split at h13
              · rename_i ety m vals hb
                rcases cond_eq h13 with ⟨h14, h15⟩ | ⟨_, h15⟩
                · cases h15
                  simp only [Bool.and_eq_true] at h14
                  obtain ⟨⟨⟨d1, d2⟩, d3⟩, d4⟩ := h14
                  have d1 := beq_eq d1
                  have d2 : len * es ≤ m := by simpa using d2
                  have d3 := beq_eq d3
                  subst d1; subst d3
                  obtain ⟨p', o, hp', ho, cc, e', fr, rfl, f1, f2, f3, f4⟩ := R.blk _ _ hb
                  rw [hpid] at hp'
                  cases hp'
                  obtain ⟨f5, rfl, rfl, _⟩ := f3 rfl
                  have hone := VRs_one hnv d4
                  rw [f5, Nat.zero_add] at f2
                  have g4 : c * es ≤ cc.size := by rw [f5, f1] at g4; omega
                  have hcl : cc.toList.length = cc.size := Array.length_toList
                  by_cases hroom : len + n ≤ c
                  · have hfit : len * es + news.length ≤ cc.size := by
                      have : (len + n) * es ≤ c * es := Nat.mul_le_mul_right _ hroom
                      rw [Nat.add_mul] at this
                      rw [hnl, ← hes]; omega
                    have hst := run_storeCells_at (P := P) p.1 (len * es) e' news 0 cc w ho (by omega) hone
                    simp only [Nat.add_zero] at hst
                    have hB : BR ρ μ p (.cells true true e' (len * es + new.length) (vals.puts (len * es) new)) (.cells (cc.toList.take (len * es) ++ news ++ cc.toList.drop (len * es + news.length)).toArray e' (0, 0)) := by
                      refine ⟨_, e', (0, 0), rfl, by rw [laid_size hfit]; exact f1, by rw [laid_size hfit, f5]; omega, fun _ => ⟨f5, rfl, rfl, fun hh => by cases hh⟩, ?_⟩
                      intro j u hj hju
                      rw [f5, Nat.zero_add, laid_get hfit]
                      rw [T.get_puts] at hju
                      by_cases hin : len * es ≤ j ∧ j < len * es + new.length
                      · rw [if_pos hin] at hju
                        rw [if_pos (by omega)]
                        exact VRs_get hnv _ _ hju
                      · rw [if_neg hin] at hju
                        rw [if_neg (by omega)]
                        have := f4 j u (by omega) hju
                        rwa [f5, Nat.zero_add] at this
                    obtain ⟨R1, S1⟩ := R.replace (w' := w.setRow p.1 _) hb rfl (b' := .cells true true e' (len * es + new.length) (vals.puts (len * es) new)) rfl hpid (setRow_size w p.1 _) (fun k hk => setRow_other w p.1 k _ hk) (setRow_heap _ _ cc _ _ _ ho) hB rfl rfl rfl (setRow_fz _ _ _)
                    obtain ⟨R2, S2⟩ := R1.rename (id := id) (b := .cells true true e' (len * es + new.length) (vals.puts (len * es) new)) (by simp [upd]) hpid
                    have hget : ((h.del id).new (.cells true true e' (len * es + new.length) (vals.puts (len * es) new))).get = upd (upd (upd h.get id (some (.cells true true e' (len * es + new.length) (vals.puts (len * es) new)))) id none) h.next (some (.cells true true e' (len * es + new.length) (vals.puts (len * es) new))) := by
                      rw [H.get_new, H.get_del]
                      funext j
                      simp only [upd, H.next_del]
                      by_cases q1 : j = h.next
                      · simp [q1]
                      · by_cases q2 : j = id
                        · simp [q2]
                        · simp [q1, q2]
                    refine ⟨_, _, _, app_room (w' := w.setRow p.1 _) h0 h1 h2 h3 ht hx hni hlen he hf hroom ?_ (fun h => by cases h), by rw [hget]; exact R2, by rw [hget]; exact Stp.trans S1 S2 (Nat.le_refl _), ?_⟩
                    · intro a ha
                      cases ha
                      rw [addr_add, f5, ← hes]
                      simpa using hst
                    · rw [VR]
                      refine ⟨p, c, by simp [upd], by rw [f5], (fun e => by cases e), hroom, Nat.le_refl _, ?_⟩
                      rw [f5, f1]; omega
                  · have holds : (Builtin.firstCells te.size len (.slice (some ⟨p.1, p.2.1 + 0, none⟩) len c)).run P w.drew = .ok (cc.toList.take (len * es)).toArray w.drew := by
                      have := run_loadCells_list (P := P) w.drew ⟨p.1, p.2.1 + 0, none⟩ (cc.toList.take (len * es)) (fun j x hx => by
                        rw [addr_add, cell_at (w := w.drew) ho, f5]
                        simp only [Nat.zero_add]
                        rw [List.getElem?_take] at hx
                        split at hx
                        · rw [Array.getElem?_toList] at hx; exact hx
                        · cases hx)
                      rw [List.length_take, hcl, Nat.min_eq_left (by omega)] at this
                      simp only [Builtin.firstCells, ← hes]
                      exact this
                    obtain ⟨cap', z, a1, a2, a3⟩ := app_grow (ρ := ρ) (μ := μ) (ty := ty) h0 h1 h2 h3 ht hx hni hlen he holds hf' (by omega) b1 b2
                    obtain ⟨R1, S1⟩ := R.del id
                    have hle : μ.le (upd μ h.next (some (w.heap.size, 0, ((cc.toList.take (len * es)).toArray ++ news'.toArray ++ Builtin.zeroCells z (cap' - (len + n))).size))) := by
                      intro j q hj
                      unfold upd
                      split
                      · rename_i e; subst e; rw [R.none_next] at hj; cases hj
                      · exact hj
                    have hnewl' := VRs_length hnv'
                    have htl : (cc.toList.take (len * es)).length = len * es := by simp; omega
                    have hB : BR ρ (upd μ h.next (some (w.heap.size, 0, ((cc.toList.take (len * es)).toArray ++ news'.toArray ++ Builtin.zeroCells z (cap' - (len + n))).size))) (w.heap.size, 0, ((cc.toList.take (len * es)).toArray ++ news'.toArray ++ Builtin.zeroCells z (cap' - (len + n))).size)
                        (.cells true true e' (len * es + new.length) (vals.puts (len * es) new)) (.cells ((cc.toList.take (len * es)).toArray ++ news'.toArray ++ Builtin.zeroCells z (cap' - (len + n))) e' (0, 0)) := by
                      refine ⟨_, e', (0, 0), rfl, rfl, by simp; omega, fun _ => ⟨rfl, rfl, rfl, fun hh => by cases hh⟩, ?_⟩
                      intro j u hj hju
                      rw [T.get_puts] at hju
                      simp only [Nat.zero_add]
                      rw [Array.getElem?_append_left (by simp; omega)]
                      by_cases hin : len * es ≤ j ∧ j < len * es + new.length
                      · rw [if_pos hin] at hju
                        obtain ⟨y, y1, y2⟩ := VRs_get hnv' _ _ hju
                        refine ⟨y, ?_, VR_mono hle y2⟩
                        rw [Array.getElem?_append_right (by simp; omega)]
                        simp only [List.size_toArray, htl]
                        simpa using y1
                      · rw [if_neg hin] at hju
                        obtain ⟨y, y1, y2⟩ := f4 j u (by omega) hju
                        refine ⟨y, ?_, VR_mono hle y2⟩
                        rw [f5, Nat.zero_add] at y1
                        rw [Array.getElem?_append_left (by simp; omega), List.getElem?_toArray, List.getElem?_take, if_pos (by omega), Array.getElem?_toList]
                        exact y1
                    obtain ⟨R2, S2⟩ := R1.alloc (w' := w.drew.alloc (.cells ((cc.toList.take (len * es)).toArray ++ news'.toArray ++ Builtin.zeroCells z (cap' - (len + n))) e')) R.none_next (Nat.le_refl _) (Nat.lt_succ_self _) (Nat.le_succ _) (by simp)
                      (fun k hk => heap_alloc_old w.drew _ k hk) (heap_alloc_new w.drew _) hB rfl rfl rfl (fun a _ => RowKit.frozen?_alloc_cells w.drew _ _ a)
                    have hget : ((h.del id).new (.cells true true e' (len * es + new.length) (vals.puts (len * es) new))).get = upd (upd h.get id none) h.next (some (.cells true true e' (len * es + new.length) (vals.puts (len * es) new))) := by
                      rw [H.get_new, H.get_del]; rfl
                    refine ⟨_, _, _, a1, by rw [hget]; exact R2, by rw [hget]; exact Stp.trans S1 S2 (Nat.le_refl _), ?_⟩
                    rw [VR]
                    refine ⟨_, cap', by simp only [upd, if_true]; rfl, rfl, (fun e => by cases e), a2, Nat.le_refl _, ?_⟩
                    have hz := VRs_size a3
                    simp only [Array.size_append, List.size_toArray, zeroCells_size, hnl', ← hz, hez, Nat.zero_add, hes]
                    rw [hes] at htl
                    rw [htl]
                    rw [← Nat.add_mul, ← Nat.add_mul]
                    exact Nat.mul_le_mul_right _ (by omega)
                · cases h15
              · cases h13
        · cases h9
    · cases h5
  · cases hr2

theorem first0 {size m : Nat} {a : AV} {v : Value} (hv : VR ρ μ a v) (hm : lenOfA a = .ok m) : (Builtin.firstCells size 0 v).run P w = .ok #[] w := by
  have hl : ∀ ad, (loadCells ad 0).run P w = .ok #[] w := fun ad => by simpa using run_loadCells_list (P := P) w ad [] (by simp)
  unfold lenOfA at hm
  split at hm
  · rw [VR] at hv; obtain ⟨_, _, _, rfl, _⟩ := hv; simp [Builtin.firstCells, hl]
  · rw [VR] at hv; subst hv; simp [Builtin.firstCells]
  · rw [VR] at hv; obtain ⟨_, _, rfl⟩ := hv; simp [Builtin.firstCells, hl]
  · rw [VR] at hv; obtain ⟨s, rfl, _⟩ := hv; simp [Builtin.firstCells]
  · cases hm

theorem copy_run {ts : Array TypeId} {us : Array Value} {t e ty : TypeId} {te : TI} {base : Option Addr} {x : Value} {dLen dCap n m : Nat} {news : List Value} {w' : World}
    (h0 : ts[0]? = some t) (h2 : us[0]? = some (.slice base dLen dCap)) (h3 : us[1]? = some x) (ht : P.underlying t = some (.slice e)) (he : tinfo P e = some te) (hl : (Builtin.lenOf x).run P w = .ok n w) (hm : Nat.min n dLen = m)
    (hn : (Builtin.firstCells te.size m x).run P w = .ok news.toArray w) (hst : ∀ a, base = some a → (storeCells a news).run P w = .ok () w') (hno : base = none → w' = w) :
    (Builtin.copy_ ts ty us).run P w = .ok (goInt m) w' := by
  cases base with
  | none =>
    rw [hno rfl]
    simp [Builtin.copy_, h0, h2, h3, run_und ht, run_size he, hl, hm, hn]
  | some a =>
    have := hst a rfl
    simp [Builtin.copy_, h0, h2, h3, run_und ht, run_size he, hl, hm, hn, this]

theorem copyA_spec {ts : Array TypeId} {us : Array Value} {t e ty : TypeId} {te : TI} {h h' : H} {d x : AV} {r : Option AV} {dv xv : Value} {n : Nat} (hp : pc.holds ρ) (R : Rel ρ μ h.get h.next w)
    (h0 : ts[0]? = some t) (h2 : us[0]? = some dv) (h3 : us[1]? = some xv) (ht : P.underlying t = some (.slice e)) (he : tinfo P e = some te) (hd : VR ρ μ d dv) (hxv : VR ρ μ x xv) (hn : lenOfA x = .ok n)
    (hr : copyA pc h te.size n x d = .ok (r, h')) :
    ∃ y w', (Builtin.copy_ ts ty us).run P w = .ok y w' ∧ Rel ρ μ h'.get h'.next w' ∧ Stp μ h.get h.next w μ h'.get w' ∧ ∀ b, r = some b → VR ρ μ b y := by
  have hl := lenOfA_spec (P := P) (w := w) hxv hn
  unfold copyA at hr
  split at hr
  · cases hr
    rw [VR] at hd
    subst hd
    exact ⟨_, w, copy_run (m := 0) (news := []) h0 h2 h3 ht he hl (Nat.min_zero n) (first0 hxv hn) (fun a ha => by cases ha) (fun _ => rfl), R, Stp.refl _ _ _ _, fun b hb => by cases hb; rw [VR]; rfl⟩
  · cases hr
    rw [VR] at hd
    obtain ⟨ad, c, rfl⟩ := hd
    exact ⟨_, w, copy_run (m := 0) (news := []) h0 h2 h3 ht he hl (Nat.min_zero n) (first0 hxv hn) (fun a ha => by simp [storeCells]) (fun _ => rfl), R, Stp.refl _ _ _ _, fun b hb => by cases hb; rw [VR]; rfl⟩
  · rename_i id off len ex cap es
    rcases cond_eq hr with ⟨h4, h5⟩ | ⟨_, h5⟩
    · have hes := beq_eq h4
      simp only [min_ble] at h5
      obtain ⟨new, h6, h7⟩ := Res.bind_eq_ok h5
      obtain ⟨news, hf, hnv, hnl⟩ := firstA_spec (P := P) hp R hxv hn (Nat.min_le_left n len) h6
      rw [VR] at hd
      obtain ⟨p, c, hpid, rfl, _⟩ := hd
      rcases cond_eq h7 with ⟨h8, h9⟩ | ⟨_, h9⟩
      · cases h9
        have h8 := beq_eq h8
        rw [h8] at hf hnl
        have : news = [] := List.eq_nil_of_length_eq_zero (by omega)
        subst this
        exact ⟨_, w, copy_run (m := 0) (news := []) h0 h2 h3 ht he hl h8 hf (fun a ha => by simp [storeCells]) (fun h => by cases h), R, Stp.refl _ _ _ _, fun b hb => by cases hb; rw [VR]; rfl⟩
      · obtain ⟨h'', h10, h11⟩ := Res.bind_eq_ok h9
        cases h11
        obtain ⟨p', cc, e', w', q1, q2, q3, q4, q5, q6, q7, q8, q9, q10⟩ := wr_spec (P := P) R hnv h10
        rw [hpid] at q1
        cases q1
        refine ⟨_, w', copy_run (m := min n len) (w' := w') h0 h2 h3 ht he hl rfl hf ?_ (fun h => by cases h), by rw [q8]; exact q9, q10, fun b hb => by cases hb; rw [VR]; rfl⟩
        intro a ha
        cases ha
        rw [q2, Nat.zero_add]
        exact q7
    · cases h5
  · cases hr

/-! ### All of them -/
theorem seq_of {d : TypeDesc} (h : (tdOf d).seq = true) : (∃ k, d = .slice k) ∨ d = .string := by
  cases d <;> first
    | (simp only [tdOf, TD.seq] at h; cases h; done)
    | exact .inl ⟨_, rfl⟩
    | exact .inr rfl

theorem zerosA_spec {ts : Array TypeId} {us : Array Value} {t tx e ty : TypeId} {kx : IntKind} {te : TI} {h h' : H} {s x : AV} {r : Option AV} {sv xv : Value} (hp : pc.holds ρ) (R : Rel ρ μ h.get h.next w)
    (h0 : ts[0]? = some t) (h1 : ts[1]? = some tx) (h2 : us[0]? = some sv) (h3 : us[1]? = some xv) (ht : P.underlying t = some (.slice e)) (hx : P.underlying tx = some (.int kx))
    (he : tinfo P e = some te) (hs : VR ρ μ s sv) (hxv : VR ρ μ x xv) (hr : zerosA pc h e te s x = .ok (r, h')) :
    ∃ y w' μ', (Builtin.append_ ts ty us).run P w = .ok y w' ∧ Rel ρ μ' h'.get h'.next w' ∧ Stp μ h.get h.next w μ' h'.get w' ∧ ∀ b, r = some b → VR ρ μ' b y := by
  unfold zerosA at hr
  split at hr
  · obtain ⟨⟨kd, n'⟩, h4, h5⟩ := Res.bind_eq_ok hr
    split at h5
    · rename_i n hn
      simp only at hn
      subst hn
      rcases cond_eq h5 with ⟨h6, h7⟩ | ⟨_, h7⟩
      · cases h7
        simp only [Bool.and_eq_true] at h6
        obtain ⟨c1, c2, c3, c4, c5⟩ := h6
        have c1 : 1 ≤ n := by simpa using c1
        have c2 : n * te.bytes ≤ 140737488355328 := by simpa using c2
        have c3 : n ≤ 140737488355328 := by simpa using c3
        have c4 : 1 ≤ te.size := by simpa using c4
        have c5 := beq_eq c5
        have hkey := keyA_spec hp hxv h4
        subst hkey
        rw [VR] at hs
        subst hs
        obtain ⟨cap, z, a1, a2, a3⟩ := app_zeros (ρ := ρ) (μ := μ) (ty := ty) h0 h1 h2 h3 ht hx he c4 c1 c2 c3
        have hz := VRs_size a3
        have hrep : VRs ρ μ (repA te.zero n) (Builtin.zeroCells z n).toList := repA_VRs a3 (by rw [hz])
        obtain ⟨μ', r1, r2, r3⟩ := R.open (e := e) (rest := Builtin.zeroCells z (cap - n)) hrep
        refine ⟨_, _, μ', by simpa using a1, by rw [H.get_new, H.next_new]; exact r1, by rw [H.get_new]; exact r2, fun b hb => ?_⟩
        cases hb
        rw [VR]
        refine ⟨_, cap, r3, rfl, (fun e => by cases e), a2, Nat.le_refl _, ?_⟩
        simp only [Array.size_append, zeroCells_size, ← hz, c5, Nat.zero_add, Array.toArray_toList]
        rw [← Nat.add_mul]
        exact Nat.mul_le_mul_right _ (by omega)
      · cases h7
    · cases h5
  · cases hr

theorem heap_call_spec (hp : pc.holds ρ) {h h' : H} {o : Oper} {c : Call} (ho : o.op = .call c) {ea : Operand → Res AV} {rv : Operand → Value} {f : H → Res (Option AV × H)} {r : Option AV} (R : Rel ρ μ h.get h.next w)
    (he : EaR ρ μ o.op ea rv) (hc : clsCall P pc ea c = .heap f) (hr : f h = .ok (r, h')) : Done ρ μ h.get h.next w h'.get h'.next r ((execOp rv o).run P w) := by
  rw [ho] at he
  unfold clsCall at hc
  split at hc
  · rename_i b hb
    have ha : ∀ {vs : List AV}, argsA ea c.args.toList = .ok vs → VRs ρ μ vs (c.args.map rv).toList := by
      intro vs h1
      rw [Array.toList_map]
      exact argsA_spec (fun x hx a h => he x (by simp only [Op.operands, Call.operands]; exact Array.mem_append.2 (.inr (by simpa using hx))) a h) h1
    have two : ∀ {s x : AV}, VRs ρ μ [s, x] (c.args.map rv).toList → ∃ u v, (c.args.map rv)[0]? = some u ∧ (c.args.map rv)[1]? = some v ∧ VR ρ μ s u ∧ VR ρ μ x v := by
      intro s x h
      simp only [VRs_cons] at h
      obtain ⟨u, l, h1, h2, v, l', h3, h4, _⟩ := h
      subst h3
      exact ⟨u, v, by rw [← Array.getElem?_toList, h1]; rfl, by rw [← Array.getElem?_toList, h1]; rfl, h2, h4⟩
    unfold clsB at hc
    split at hc
    · cases hc
    · cases hc
    · cases hc
    · cases hc
    · injection hc with hc
      subst hc
      obtain ⟨vs, h1, h2⟩ := Res.bind_eq_ok hr
      have hvs := ha h1
      unfold aAppend at h2
      split at h2
      · rename_i s x t tx _ hts
        obtain ⟨u, v, h3, h4, h5, h6⟩ := two hvs
        obtain ⟨ti, h7, h8⟩ := Res.bind_eq_ok h2
        obtain ⟨tix, h9, h10⟩ := Res.bind_eq_ok h8
        split at h10
        · rename_i e hd
          obtain ⟨te, h11, h12⟩ := Res.bind_eq_ok h10
          rcases cond_eq h12 with ⟨hz, h12⟩ | ⟨_, h12⟩
          · obtain ⟨kx, hkx⟩ := isIntD_td hz
            have t0 : c.argTypes[0]? = some t := by rw [← Array.getElem?_toList, hts]; rfl
            have t1 : c.argTypes[1]? = some tx := by rw [← Array.getElem?_toList, hts]; rfl
            obtain ⟨y, w', μ', r1, r2, r3, r4⟩ := zerosA_spec (P := P) (ty := o.type) hp R t0 t1 h3 h4 (td_slc (tdR_spec h7) hd) (td_int (tdR_spec h9) hkx) (tdR_spec h11) h5 h6 h12
            refine ⟨y, w', μ', .inl ?_, r2, r3, r4⟩
            simp only [execOp, ho, resolve, hb, Sem.run_bind, Sem.run_pure, Result.andThen_ok, invoke, builtin, r1]
          rcases cond_eq h12 with ⟨h13, h14⟩ | ⟨_, h14⟩
          · obtain ⟨⟨v', h''⟩, h15, h16⟩ := Res.bind_eq_ok h14
            cases h16
            simp only [Bool.and_eq_true] at h13
            obtain ⟨_, dx, _, _, k1, _, k2, _⟩ := tinfo_spec (tdR_spec h9)
            have t0 : c.argTypes[0]? = some t := by rw [← Array.getElem?_toList, hts]; rfl
            have t1 : c.argTypes[1]? = some tx := by rw [← Array.getElem?_toList, hts]; rfl
            obtain ⟨y, w', μ', r1, r2, r3, r4⟩ := appendA_spec (P := P) (ty := o.type) hp R t0 t1 h3 h4 (td_slc (tdR_spec h7) hd) k1 (seq_of (by rw [← k2]; exact h13.2.2)) (tdR_spec h11) (by simpa using h13.1) (beq_eq h13.2.1) h5 h6 h15
            refine ⟨y, w', μ', .inl ?_, r2, r3, fun a ha => by cases ha; exact r4⟩
            simp only [execOp, ho, resolve, hb, Sem.run_bind, Sem.run_pure, Result.andThen_ok, invoke, builtin, r1]
          · cases h14
        · cases h10
      · cases h2
    · injection hc with hc
      subst hc
      obtain ⟨vs, h1, h2⟩ := Res.bind_eq_ok hr
      have hvs := ha h1
      unfold aCopy at h2
      split at h2
      · rename_i s x t _ hts
        obtain ⟨u, v, h3, h4, h5, h6⟩ := two hvs
        obtain ⟨ti, h7, h8⟩ := Res.bind_eq_ok h2
        split at h8
        · rename_i e hd
          obtain ⟨te, h11, h12⟩ := Res.bind_eq_ok h8
          obtain ⟨n, h13, h14⟩ := Res.bind_eq_ok h12
          have t0 : c.argTypes[0]? = some t := by rw [← Array.getElem?_toList, hts]; rfl
          obtain ⟨y, w', r1, r2, r3, r4⟩ := copyA_spec (P := P) (ty := o.type) hp R t0 h3 h4 (td_slc (tdR_spec h7) hd) (tdR_spec h11) h5 h6 h13 h14
          refine ⟨y, w', μ, .inl ?_, r2, r3, r4⟩
          simp only [execOp, ho, resolve, hb, Sem.run_bind, Sem.run_pure, Result.andThen_ok, invoke, builtin, r1]
        · cases h8
      · cases h2
    · cases hc
  · cases hc

theorem heap_spec (hp : pc.holds ρ) {h h' : H} {o : Oper} {ea : Operand → Res AV} {rv : Operand → Value} {f : H → Res (Option AV × H)} {r : Option AV} (R : Rel ρ μ h.get h.next w)
    (he : EaR ρ μ o.op ea rv) (hc : cls P pc ea o.op = .heap f) (hr : f h = .ok (r, h')) : Done ρ μ h.get h.next w h'.get h'.next r ((execOp rv o).run P w) := by
  cases ho : o.op with
  | call c => rw [ho] at hc; exact heap_call_spec hp ho R he hc hr
  | store t a x =>
    rw [ho] at hc he
    have h0 : Cls.heap (fun h => (ea a).bind fun p => (ea x).bind fun v => aStore P h t v p) = .heap f := hc
    injection h0 with h0
    subst h0
    obtain ⟨p, h1, h2⟩ := Res.bind_eq_ok hr
    obtain ⟨v, h3, h4⟩ := Res.bind_eq_ok h2
    obtain ⟨w', r1, r2, r3, rfl⟩ := aStore_spec (P := P) R (he a (by simp [Op.operands]) p h1) (he x (by simp [Op.operands]) v h3) h4
    exact ⟨undef, w', μ, .inr ⟨by simp [execOp, ho, r1], rfl⟩, r2, r3, fun a ha => by cases ha⟩
  | convert s d x =>
    rw [ho] at hc he
    have h0 : clsConv P pc ea s d x = .heap f := hc
    unfold clsConv at h0
    rcases cond_eq h0 with ⟨_, h1⟩ | ⟨_, h1⟩
    · cases h1
    · injection h1 with h1
      subst h1
      obtain ⟨v, h2, h3⟩ := Res.bind_eq_ok hr
      obtain ⟨y, w', μ', r1, r2, r3, r4⟩ := aConv_spec (P := P) hp R (he x (by simp [Op.operands]) v h2) h3
      exact ⟨y, w', μ', .inl (by simp [execOp, ho, r1]), r2, r3, r4⟩
  | range t x =>
    rw [ho] at hc he
    have h0 : Cls.heap (fun h => (ea x).bind (aRange P h t)) = .heap f := hc
    injection h0 with h0
    subst h0
    obtain ⟨v, h2, h3⟩ := Res.bind_eq_ok hr
    obtain ⟨y, w', μ', r1, r2, r3, r4⟩ := aRange_spec (P := P) R (he x (by simp [Op.operands]) v h2) h3
    exact ⟨y, w', μ', .inl (by simp [execOp, ho, r1]), r2, r3, r4⟩
  | next it str =>
    rw [ho] at hc he
    cases str
    · cases hc
    · have h0 : Cls.heap (fun h => (ea it).bind (aNext h)) = .heap f := hc
      injection h0 with h0
      subst h0
      obtain ⟨v, h2, h3⟩ := Res.bind_eq_ok hr
      obtain ⟨y, w', r1, r2, r3, r4⟩ := aNext_spec (P := P) (t := o.type) R (he it (by simp [Op.operands]) v h2) h3
      exact ⟨y, w', μ, .inl (by simp [execOp, ho, r1]), r2, r3, r4⟩
  | makeMap t res =>
    rw [ho] at hc he
    have h0 : Cls.heap (fun h => aMakeMap h res) = .heap f := hc
    injection h0 with h0
    subst h0
    obtain ⟨y, w', μ', r1, r2, r3, r4⟩ := aMakeMap_spec (P := P) (t := t) (rv := rv) R hr
    exact ⟨y, w', μ', .inl (by simp [execOp, ho, r1]), r2, r3, r4⟩
  | insert t m k x =>
    rw [ho] at hc he
    have h0 : Cls.heap (fun h => (ea m).bind fun m => (ea k).bind fun k => (ea x).bind fun v => aMapUpdate P pc h t m k v) = .heap f := hc
    injection h0 with h0
    subst h0
    obtain ⟨vm, h1, h2⟩ := Res.bind_eq_ok hr
    obtain ⟨vk, h3, h4⟩ := Res.bind_eq_ok h2
    obtain ⟨vx, h5, h6⟩ := Res.bind_eq_ok h4
    obtain ⟨w', r1, r2, r3, rfl⟩ := aMapUpdate_spec (P := P) hp R (he m (by simp [Op.operands]) vm h1) (he k (by simp [Op.operands]) vk h3) (he x (by simp [Op.operands]) vx h5) h6
    exact ⟨undef, w', μ, .inr ⟨by simp [execOp, ho, r1], rfl⟩, r2, r3, fun a ha => by cases ha⟩
  | mapUpdate t m k x =>
    rw [ho] at hc he
    have h0 : Cls.heap (fun h => (ea m).bind fun m => (ea k).bind fun k => (ea x).bind fun v => aMapUpdate P pc h t m k v) = .heap f := hc
    injection h0 with h0
    subst h0
    obtain ⟨vm, h1, h2⟩ := Res.bind_eq_ok hr
    obtain ⟨vk, h3, h4⟩ := Res.bind_eq_ok h2
    obtain ⟨vx, h5, h6⟩ := Res.bind_eq_ok h4
    obtain ⟨w', r1, r2, r3, rfl⟩ := aMapUpdate_spec (P := P) hp R (he m (by simp [Op.operands]) vm h1) (he k (by simp [Op.operands]) vk h3) (he x (by simp [Op.operands]) vx h5) h6
    exact ⟨undef, w', μ, .inr ⟨by simp [execOp, ho, r1], rfl⟩, r2, r3, fun a ha => by cases ha⟩
  | lookup t m k ok =>
    rw [ho] at hc he
    have h0 : Cls.heap (fun h => (ea m).bind fun m => (ea k).bind fun k => aLookup P pc h t ok m k) = .heap f := hc
    injection h0 with h0
    subst h0
    obtain ⟨vm, h1, h2⟩ := Res.bind_eq_ok hr
    obtain ⟨vk, h3, h4⟩ := Res.bind_eq_ok h2
    obtain ⟨rfl, y, r1, r2⟩ := aLookup_spec (P := P) hp R (he m (by simp [Op.operands]) vm h1) (he k (by simp [Op.operands]) vk h3) h4
    exact Done.same R (by simp [execOp, ho, r1]) r2
  | _ => rw [ho] at hc; cases hc

theorem load_spec {h : H} {g : G} {nx : Nat} {o : Oper} {ea : Operand → Res AV} {rv : Operand → Value} {f : H → Res AV} {r : AV} (R : Rel ρ μ g nx w)
    (hb : ∀ t a id off b, o.op = .load t a → ea a = .ok (.ptr id off) → h.get id = some b → g id = some b)
    (he : EaR ρ μ o.op ea rv) (hc : cls P pc ea o.op = .load f) (hr : f h = .ok r) : ∃ y, (execOp rv o).run P w = .ok (.value y) w ∧ VR ρ μ r y := by
  cases ho : o.op with
  | load t a =>
    rw [ho] at hc he
    have h0 : Cls.load (fun h => (ea a).bind (aLoad P h t)) = .load f := hc
    injection h0 with h0
    subst h0
    obtain ⟨p, h1, h2⟩ := Res.bind_eq_ok hr
    obtain ⟨y, h3, h4⟩ := aLoad_spec (P := P) R (fun id b ⟨off, e⟩ hg => hb t a id off b ho (by rw [h1, e]) hg) (he a (by simp [Op.operands]) p h1) h2
    exact ⟨y, by simp [execOp, ho, h3], h4⟩
  | call c =>
    rw [ho] at hc
    have h0 : clsCall P pc ea c = .load f := hc
    unfold clsCall at h0
    split at h0
    · unfold clsB at h0; split at h0 <;> cases h0
    · cases h0
  | convert s d x =>
    rw [ho] at hc
    have h0 : clsConv P pc ea s d x = .load f := hc
    unfold clsConv at h0
    rcases cond_eq h0 with ⟨_, h1⟩ | ⟨_, h1⟩ <;> cases h1
  | next it str => rw [ho] at hc; cases str <;> cases hc
  | _ => rw [ho] at hc; cases hc

end
end Go.Ev
