/- Regions whose order is open: whatever order the machine draws, it comes to what the evaluator tells; no theorem of the program yet; no conditions. -/
import Derived.Test.YtcibejieeieknaaGreatDoorEvT
set_option linter.unusedSimpArgs false
set_option linter.unusedVariables false
namespace Go.Ev
section
variable {ρ : Env} {P : Program} {pc : PC} {X : Hooks} {r : Rec} {fr : Fr} {ro : Option Nat} {ops : Array Oper} {bs : List Nat} {base : Nat} {ms : List Nat} {val : Nat → Option AV} {blk : Nat → Option Blk} {tm0 tmE : Tm} {hE : H} {snE : Snaps} {full : Nat}
variable {μ0 : Mu} {g0 : G} {w0 : World} {T : Tr}

theorem Stp.after {μ μ1 μ' : Mu} {g g1 : G} {nx : Nat} {w w1 : World} (h : Stp μ g nx w μ1 g1 w1) (e : μ1 = μ') : Stp μ g nx w μ' g1 w1 := e ▸ h

theorem sameAhead_spec {ea : Operand → Res AV} {op : Op} {v : AV} {b : Nat} {f : H → Res AV} (hc : cls P pc ea op = .load f) : ∀ {sn : Snaps}, sameAhead P pc ea op v b sn = true → ∀ x ∈ sn, bit b x.1 = false → f x.2 = .ok v := by
  intro sn
  induction sn with
  | nil => intro _ x hx; cases hx
  | cons y sn ih =>
    obtain ⟨a, h⟩ := y
    intro hs x hx hb
    simp only [sameAhead, Bool.and_eq_true, Bool.or_eq_true, hc] at hs
    rcases List.mem_cons.1 hx with rfl | hx
    · rcases hs.1 with h1 | h1
      · simp only at hb; rw [hb] at h1; cases h1
      · split at h1
        · rename_i w hw
          rw [AV.beq_eq h1] at hw
          exact hw
        · cases h1
    · exact ih hs.2 x hx hb

theorem sim (rOK : RecOK P ρ r) (xOK : HooksOK P ρ X pc) (hp : pc.holds ρ) (F : Form ops bs) (hval : ∀ x ∈ T, val x.1 = x.2.1) (hblk : ∀ x ∈ T, blk x.1 = x.2.2) {Q : Exit → Act → World → Prop}
    (K : ∀ μ' a' w', TmR ρ μ' tmE a'.tmps → a'.tmps.size = fr.nt → DR μ' ms a'.defers → Rel ρ μ' hE.get hE.next w' → Stp μ0 g0 base w0 μ' hE.get w' → base ≤ hE.next → Q .normal a' w') :
    ∀ (m : Nat) (listed : Array Bool) (a : Act) (w : World) (μ : Mu) (Ts : Tr) (tm : Tm) (h : H) (sn : Snaps) (done : Nat), listed.size = ops.size → und (dOf listed) ops.size ≤ m →
      Inv ρ P pc X r fr ops bs base ms val blk tm0 tmE hE snE full μ0 g0 w0 T (dOf listed) μ a w Ts tm h sn done → wpAnyIn (fen ro) 0 P .any ops Q m listed a w := by
  -- the end
  have fin : ∀ (listed : Array Bool) (a : Act) (w : World) (μ : Mu) (Ts : Tr) (tm : Tm) (h : H) (sn : Snaps) (done : Nat),
      Inv ρ P pc X r fr ops bs base ms val blk tm0 tmE hE snE full μ0 g0 w0 T (dOf listed) μ a w Ts tm h sn done → (∀ i, i < ops.size → dOf listed i = true) → Q .normal a w := by
    intro listed a w μ Ts tm h sn done I hall
    have hidx : ∀ x ∈ Ts, ∃ o, ops[x.1]? = some o := by
      intro x hx
      obtain ⟨T1, T2, e⟩ := List.append_of_mem hx
      have := I.al
      rw [e] at this
      obtain ⟨_, _, _, _, _, b2⟩ := along_append this
      obtain ⟨i, v, bk⟩ := x
      obtain ⟨o, _, _, _, ho, _⟩ := b2
      exact ⟨o, ho⟩
    have hnoa : ∀ x ∈ Ts, ∀ o, ops[x.1]? = some o → (kindO P o.op).isAnchor = false := by
      intro x hx o ho
      exact I.anc x hx o ho (hall x.1 (Array.getElem?_eq_some_iff.1 ho).1)
    obtain ⟨n1, g1⟩ := along_heap (blk := blk) I.al hnoa (fun x hx => hblk x (I.sub x hx))
    have hg : gOf blk base h Ts (dOf listed) = hE.get := by
      funext id
      rw [g1 id]
      unfold gOf
      by_cases hc : base ≤ id ∧ id - base ∈ Ts.map (·.1)
      · obtain ⟨x, hx, ex⟩ := List.mem_map.1 hc.2
        obtain ⟨o, ho⟩ := hidx x hx
        have hlt := (Array.getElem?_eq_some_iff.1 ho).1
        have hnone : h.get id = none := by
          have := I.hn x hx
          rwa [ex, show base + (id - base) = id by omega] at this
        rw [if_pos ⟨hc.1, hall _ (by rw [← ex]; exact hlt), hc.2⟩, if_pos hc, hnone]
        cases blk (id - base) <;> rfl
      · rw [if_neg (fun hh => hc ⟨hh.1, hh.2.2⟩), if_neg hc]
    obtain ⟨t1, t2, t3⟩ := along_tm F I.al (fun x hx => hval x (I.sub x hx)) I.tmc I.clc
    have hdone := (along_done I.al).1
    refine K μ a w ?_ I.size I.dfr (by rw [← hg, n1]; exact I.rel) (by rw [← hg]; exact I.stp) (by rw [n1]; have := I.nx; omega)
    intro t v ht
    rw [t1 t] at ht
    refine I.tms t v ?_
    rw [← ht]
    unfold tmD
    rw [lw_congr (D := dOf listed) (E := bit full) fun j hj _ => ?_]
    rw [hall j hj, ((hdone j).2 (I.all j hj))]
  intro m
  induction m with
  | zero =>
    intro listed a w μ Ts tm h sn done hs hu I
    have hall := und_zero (D := dOf listed) (n := ops.size) (by omega)
    refine ⟨?_, fin listed a w μ Ts tm h sn done I hall⟩
    cases hr : Region.ready .any ops listed with
    | nil => rfl
    | cons i l =>
      obtain ⟨o, ho, hd, _⟩ := (ready_spec hs).1 (by rw [hr]; exact List.mem_cons_self)
      rw [hall i (Array.getElem?_eq_some_iff.1 ho).1] at hd
      cases hd
  | succ m ih =>
    intro listed a w μ Ts tm h sn done hs hu I
    refine ⟨fun hn => fin listed a w μ Ts tm h sn done I (ready_nil F hs hn), ?_⟩
    intro i hi
    obtain ⟨o, ho, hd, hons⟩ := (ready_spec hs).1 hi
    have hisz : i < ops.size := (Array.getElem?_eq_some_iff.1 ho).1
    have hEq := dOf_set (listed := listed) (i := i) (by omega)
    have hs' : (listed.setIfInBounds i true).size = ops.size := by simp [hs]
    have hu' : und (dOf (listed.setIfInBounds i true)) ops.size ≤ m := by
      have := und_add hEq hd (n := ops.size)
      rw [if_pos hisz] at this
      omega
    have hB : ∀ k, bit ((nth bs i).getD 0) k = true → dOf listed k = true := by
      intro k hk
      rw [F.eqn i o ho, bit_orAll] at hk
      obtain ⟨j, hj, rfl | hk⟩ := hk
      · exact hons _ hj
      · have hlt := F.low i o ho j hj
        exact I.cl j k (by omega) (hons j hj) hk
    have hnd : bit done i = false := by
      cases hb : bit done i with
      | false => rfl
      | true => rw [I.dD i hb] at hd; cases hd
    have him : i ∈ Ts.map (·.1) := by
      rcases I.all i hisz with h | h
      · rw [hnd] at h; cases h
      · exact h
    obtain ⟨⟨i', v, bk⟩, hx, rfl⟩ := List.mem_map.1 him
    simp only at ho hd hons hisz hEq hs' hu' hB hnd him hi
    obtain ⟨T1, T2, eT⟩ := List.append_of_mem hx
    have hal := I.al
    rw [eT] at hal
    obtain ⟨tm1, h1, sn1, done1, A1, A2⟩ := along_append hal
    obtain ⟨o', tm2, h2, sn2, ho', c2, c3, c4, c5, A3⟩ := A2
    rw [ho] at ho'
    cases ho'
    have sub1 : ∀ x ∈ T1, x ∈ Ts := fun x hx => by rw [eT]; exact List.mem_append_left _ hx
    have sub2 : ∀ x ∈ T2, x ∈ Ts := fun x hx => by rw [eT]; exact List.mem_append_right _ (List.mem_cons_of_mem _ hx)
    obtain ⟨t1, t2, t3⟩ := along_tm F A1 (fun x hx => hval x (I.sub x (sub1 x hx))) I.tmc I.clc
    have hvi : val i' = v := hval _ (I.sub _ hx)
    have hbi : blk i' = bk := hblk _ (I.sub _ hx)
    have hlk : LkR ρ μ ops o tm1 a.tmps := by
      intro t ht u hu
      rw [t1 t] at hu
      refine I.tms t u ?_
      rw [← hu]
      unfold tmD
      rw [read_same F ho hd hB I.cl ht, read_same F ho c2 c3 (fun j k _ => t2 j k) ht]
    have hsz : ∀ d, o.dst = some d → d < fr.nt := putA_ok c5.1
    have hgn : gOf blk base h Ts (dOf listed) (base + i') = none := by
      cases hg : gOf blk base h Ts (dOf listed) (base + i') with
      | none => rfl
      | some b =>
        obtain ⟨p, _, hp, _⟩ := I.rel.blk _ _ hg
        rw [I.non i' hisz hd] at hp
        cases hp
    have hnk : ∀ (c : Cls), cls P pc (evalA tm1) o.op = c → c ≠ .no → ∀ cc, o.op ≠ .defer cc := by
      intro c hc hne cc he
      rw [he] at hc
      exact hne hc.symm
    unfold wpOpIn
    simp only [ho]
    cases hk : (kindO P o.op).isAnchor with
    | false =>
      -- no anchor: nothing is known to have changed
      have stay : bk = none → ∀ x, (∀ b, v = some b → VR ρ μ b x) → wpAnyIn (fen ro) 0 P .any ops Q m (listed.setIfInBounds i' true) (a.put o.dst x) w := by
        intro hb x hvx
        have hgg := gOf_none (base := base) (h := h) (Ts := Ts) hEq (hbi.trans hb) hgn hd
        refine ih _ _ w μ Ts tm h sn done hs' hu' (I.more F ho hEq hd hB hk hsz (Mu.le_refl _) ?_ ?_ (fun _ _ => rfl) (fun b hb => hvx b (hvi ▸ hb)))
        · rw [hgg]; exact I.rel
        · rw [hgg]; exact I.stp
      rcases c5.2.2.2 with ⟨w1, e1, e2, _⟩ | ⟨w1, h3⟩
      · rw [LkR_want hp hlk w1]
        simp only [Bool.false_eq_true, if_false]
        exact ⟨fun _ _ => trivial, stay e2 undef fun b hb => by rw [e1] at hb; cases hb; exact VR_undef⟩
      · rw [LkR_want hp hlk w1]
        simp only [if_true]
        refine ⟨fun _ _ => trivial, ?_⟩
        rcases h3 with ⟨b, q1, q2, q3, _⟩ | ⟨f, b, q1, q2, q3, q4, _, q5, q6⟩ | ⟨b, mk, q1, q2, q3, _⟩ | ⟨q1, _⟩
        · rw [Oper.semAt_eq _ _ _ (hnk _ q1 (by simp))]
          obtain ⟨y, r1, r2⟩ := pure_spec (w := w) hp (LkR_ea hlk I.rel.glob) q1
          rw [r1]
          exact stay q3 y fun c hc => by rw [q2] at hc; cases hc; exact r2
        · rw [Oper.semAt_eq _ _ _ (hnk _ q1 (by simp))]
          have hL : ∃ hL, f hL = .ok b ∧ ∀ id, id < base → hL.get id = h.get id := by
            rcases along_low A1 with g1 | ⟨x, hx1, o', x1, x2, ha, x3, x4⟩
            · exact ⟨h1, q2, g1⟩
            · refine ⟨ha, ?_, x4⟩
              refine sameAhead_spec q1 q6 (x.1, ha) x3 ?_
              cases hbx : bit ((nth bs i').getD 0) x.1 with
              | false => rfl
              | true =>
                have := I.anc x (sub1 x hx1) o' x1 (hB _ hbx)
                rw [this] at x2
                cases x2
          obtain ⟨hL, l1, l2⟩ := hL
          obtain ⟨y, r1, r2⟩ := load_spec (h := hL) I.rel (by
            intro t ad id bb hop pp hea hld hget
            have hlt : id < base := by
              rw [hop] at q5
              rcases hld with ⟨off, rfl⟩ | ⟨off, es, n, e, rfl⟩ <;>
              · simp only [addrBelow, hea] at q5
                simpa using q5
            rw [l2 id hlt] at hget
            unfold gOf
            rw [if_neg (by omega)]
            exact hget) (LkR_ea hlk I.rel.glob) q1 l1
          rw [r1]
          exact stay q4 y fun c hc => by rw [q3] at hc; cases hc; exact r2
        · rw [Oper.semAt_eq _ _ _ (hnk _ q1 (by simp))]
          obtain ⟨c, e, y, r1, r2, r3⟩ := alloc_spec (w := w) hp (LkR_ea hlk I.rel.glob) q1
          rw [r1]
          have hidn := I.non i' hisz hd
          have hle : Mu.le μ (upd μ (base + i') (some (w.heap.size, 0, c.size))) := by
            intro j q hj
            unfold upd
            split
            · rename_i e; subst e; rw [hidn] at hj; cases hj
            · exact hj
          obtain ⟨k1, k2⟩ := r3 _ hle (base + i') (by simp [upd])
          have hnx := I.nx
          obtain ⟨R', S'⟩ := I.rel.alloc (w' := w.alloc (.cells c e)) (nx0 := base) (nx' := h.next) hidn (by omega) (by omega) (Nat.le_refl _) (by simp) (fun k hk => heap_alloc_old w _ k hk) (heap_alloc_new w _) k1 rfl rfl rfl (fun a _ => RowKit.frozen?_alloc_cells w _ _ a)
          have hgg := gOf_some (base := base) (h := h) (Ts := Ts) hEq (hbi.trans q3) him
          refine ih _ _ _ _ Ts tm h sn done hs' hu' (I.more F ho hEq hd hB hk hsz hle (by rw [hgg]; exact R') (by rw [hgg]; exact Stp.trans I.stp S' (Nat.le_refl _)) ?_ ?_)
          · intro j hj
            unfold upd
            rw [if_neg (by omega)]
          · intro bb hb
            rw [hvi, q2] at hb
            cases hb
            exact k2
        · rw [hk] at q1; cases q1
    | true =>
      -- an anchor: all ahead of it in the evaluator's order is done
      have hdone1 := c4 hk
      have hT1 : ∀ x ∈ T1, dOf listed x.1 = true := by
        intro x hx
        refine hB _ ?_
        rw [← hdone1]
        exact ((along_done A1).1 x.1).2 (.inr (List.mem_map_of_mem hx))
      have hnoa : ∀ x ∈ T1, ∀ o, ops[x.1]? = some o → (kindO P o.op).isAnchor = false := fun x hx o ho => I.anc x (sub1 x hx) o ho (hT1 x hx)
      obtain ⟨n1, g1⟩ := along_heap (blk := blk) A1 hnoa (fun x hx => hblk x (I.sub x (sub1 x hx)))
      have hnd2 := (along_done I.al).2.2.1
      rw [eT, List.map_append, List.nodup_append] at hnd2
      obtain ⟨nd1, nd2, nd3⟩ := hnd2
      simp only [List.map_cons, List.nodup_cons] at nd2
      have hi1 : i' ∉ T1.map (·.1) := fun hm => nd3 _ hm i' (by simp) rfl
      have hidx : ∀ x ∈ Ts, ∃ o, ops[x.1]? = some o := by
        intro x hx
        obtain ⟨S1, S2, e⟩ := List.append_of_mem hx
        have := I.al
        rw [e] at this
        obtain ⟨_, _, _, _, _, b2⟩ := along_append this
        obtain ⟨i, v, bk⟩ := x
        obtain ⟨o, _, _, _, ho, _⟩ := b2
        exact ⟨o, ho⟩
      have hnot1 : ∀ k, k ∈ ((i', v, bk) :: T2).map (·.1) → k ∉ T1.map (·.1) := by
        intro k hk hk1
        exact nd3 k hk1 k hk rfl
      have hn1 : ∀ k, k ∈ ((i', v, bk) :: T2).map (·.1) → h1.get (base + k) = none := by
        intro k hkm
        rw [g1, if_neg]
        · obtain ⟨x, hx, rfl⟩ := List.mem_map.1 hkm
          exact I.hn x (by rw [eT]; exact List.mem_append_right _ hx)
        · rintro ⟨_, hm⟩
          rw [show base + k - base = k by omega] at hm
          exact hnot1 k hkm hm
      have hgx : gOf blk base h Ts (dOf listed) = gOf blk base h1 ((i', v, bk) :: T2) (dOf listed) := by
        funext id
        unfold gOf
        by_cases hb : base ≤ id
        · by_cases hm1 : id - base ∈ T1.map (·.1)
          · obtain ⟨x, hx1, ex⟩ := List.mem_map.1 hm1
            have hDx : dOf listed (id - base) = true := by rw [← ex]; exact hT1 x hx1
            have hnone : h.get id = none := by
              have := I.hn x (sub1 x hx1)
              rwa [ex, show base + (id - base) = id by omega] at this
            rw [if_pos ⟨hb, hDx, by rw [eT, List.map_append]; exact List.mem_append_left _ hm1⟩, if_neg (fun hh => hnot1 _ hh.2.2 hm1), g1, if_pos ⟨hb, hm1⟩, hnone]
            cases blk (id - base) <;> rfl
          · have e1 : h1.get id = h.get id := by rw [g1, if_neg (fun hh => hm1 hh.2)]
            rw [e1]
            by_cases hc : dOf listed (id - base) = true ∧ id - base ∈ ((i', v, bk) :: T2).map (·.1)
            · rw [if_pos ⟨hb, hc.1, by rw [eT, List.map_append]; exact List.mem_append_right _ hc.2⟩, if_pos ⟨hb, hc⟩]
            · have hcn : ¬ (base ≤ id ∧ dOf listed (id - base) = true ∧ id - base ∈ Ts.map (·.1)) := by
                rintro ⟨_, hh1, hh2⟩
                rw [eT, List.map_append] at hh2
                rcases List.mem_append.1 hh2 with hh2 | hh2
                · exact hm1 hh2
                · exact hc ⟨hh1, hh2⟩
              rw [if_neg hcn, if_neg (fun hh => hc hh.2)]
        · rw [if_neg (fun hh => hb hh.1), if_neg (fun hh => hb hh.1), g1, if_neg (fun hh => hb hh.1)]
      have hRx : Rel ρ μ (gOf blk base h1 ((i', v, bk) :: T2) (dOf listed)) h1.next w := by rw [← hgx, n1]; exact I.rel
      have hSx : Stp μ0 g0 base w0 μ (gOf blk base h1 ((i', v, bk) :: T2) (dOf listed)) w := by rw [← hgx]; exact I.stp
      have hsub : ∀ id b, h1.get id = some b → gOf blk base h1 ((i', v, bk) :: T2) (dOf listed) id = some b := by
        intro id b hg
        unfold gOf
        rw [if_neg]
        · exact hg
        · rintro ⟨hb, _, hm⟩
          have := hn1 _ hm
          rw [show base + (id - base) = id by omega, hg] at this
          cases this
      have R1 : Rel ρ μ h1.get h1.next w := hRx.sub hsub (Nat.le_refl _)
      have hnx := I.nx
      obtain ⟨t1', t2', _⟩ := along_tm (val := val) (tm0 := tm0) F (T := [(i', v, bk)]) (tm' := tm2) (h' := h2) (sn' := sn2) (done' := Nat.lor done1 (Nat.shiftLeft 1 i')) ⟨o, tm2, h2, sn2, ho, c2, c3, c4, c5, rfl, rfl, rfl, rfl⟩ (fun x hx' => by
        rw [List.mem_singleton] at hx'
        rw [hx']; exact hvi) t1 t2
      have step : ∀ x w' μ', Rel ρ μ' h2.get h2.next w' → Stp μ h1.get h1.next w μ' h2.get w' → h1.next ≤ h2.next → (∀ b, v = some b → VR ρ μ' b x) →
          wpAnyIn (fen ro) 0 P .any ops Q m (listed.setIfInBounds i' true) (a.put o.dst x) w' := by
        intro x w' μ' R' S' n' hv'
        have hE0 : ∀ {k}, k ∈ T2.map (·.1) → k ≠ i' := fun hk e => nd2.1 (by rw [← e]; exact hk)
        have hy : ∀ id b, gOf blk base h2 T2 (dOf (listed.setIfInBounds i' true)) id = some b → h2.get id = some b ∨ (gOf blk base h1 ((i', v, bk) :: T2) (dOf listed) id = some b ∧ h1.get id = none) := by
          intro id b hg
          unfold gOf at hg
          split at hg
          · rename_i hc
            obtain ⟨c1, c2, c3⟩ := hc
            rw [hEq] at c2
            simp only [hE0 c3, decide_false, Bool.or_false] at c2
            have hm : id - base ∈ ((i', v, bk) :: T2).map (·.1) := List.mem_cons_of_mem _ c3
            refine .inr ⟨?_, ?_⟩
            · unfold gOf
              rw [if_pos ⟨c1, c2, hm⟩]
              exact hg
            · have := hn1 _ hm
              rwa [show base + (id - base) = id by omega] at this
          · exact .inl hg
        refine ih _ _ w' μ' T2 tm2 h2 sn2 (Nat.lor done1 (Nat.shiftLeft 1 i')) hs' hu' ?_
        refine ⟨A3, fun x hx => I.sub x (sub2 x hx), t1', t2', ?_, ?_, ?_, ?_, by omega, ?_, ?_, ?_, ?_, ?_, ?_, ?_⟩
        · intro j hj
          rw [bit_lor, bit_one] at hj
          rw [hEq]
          simp only [Bool.or_eq_true, decide_eq_true_eq] at hj ⊢
          rcases hj with hj | hj
          · rw [hdone1] at hj; exact .inl (hB j hj)
          · exact .inr hj
        · intro y hy' o' ho' hdy
          rw [hEq] at hdy
          simp only [hE0 (List.mem_map_of_mem hy'), decide_false, Bool.or_false] at hdy
          exact I.anc y (sub2 y hy') o' ho' hdy
        · intro j k hj hdj hb
          rw [hEq] at hdj ⊢
          by_cases e : j = i'
          · subst e; rw [hB k hb]; rfl
          · simp only [e, decide_false, Bool.or_false] at hdj
            rw [I.cl j k hj hdj hb]; rfl
        · exact Rel.beside hRx hsub S' R' hy
        · intro j hj hdj
          rw [hEq, Bool.or_eq_false_iff] at hdj
          cases hm : μ' (base + j) with
          | none => rfl
          | some p =>
            rcases S'.new _ _ hm with hh | hh
            · rw [I.non j hj hdj.1] at hh; cases hh
            · omega
        · intro y hy'
          obtain ⟨o', ho'⟩ := hidx y (sub2 y hy')
          have hlt := (Array.getElem?_eq_some_iff.1 ho').1
          cases hg : h2.get (base + y.1) with
          | none => rfl
          | some b =>
            rcases S'.ids _ _ hg with ⟨b', hh⟩ | hh
            · rw [hn1 y.1 (List.mem_cons_of_mem _ (List.mem_map_of_mem hy'))] at hh; cases hh
            · omega
        · exact tms_put F ho hEq hd I.cl S'.le I.tms (fun d hd => by rw [I.size]; exact hsz d hd) (fun b hb => hv' b (hvi ▸ hb))
        · rw [(put_size a o.dst x).1]; exact I.size
        · rw [(put_size a o.dst x).2]; exact DR_mono S'.le I.dfr
        · exact Stp.beside hSx hsub (fun id b hg => by obtain ⟨p, _, hp, _⟩ := hRx.blk id b hg; exact ⟨p, hp⟩) S' (fun id b hg => (hy id b hg).imp (fun h => h) (fun h => h.1)) (by omega)
        · intro j hj
          rw [bit_lor, bit_one]
          simp only [Bool.or_eq_true, decide_eq_true_eq]
          rcases I.all j hj with hh | hh
          · exact .inl (.inl (((along_done A1).1 j).2 (.inl hh)))
          · rw [eT, List.map_append] at hh
            rcases List.mem_append.1 hh with hh | hh
            · exact .inl (.inl (((along_done A1).1 j).2 (.inr hh)))
            · rcases List.mem_cons.1 hh with hh | hh
              · exact .inl (.inr hh)
              · exact .inr hh
      have notk : ∀ c, cls P pc (evalA tm1) o.op = c → (kindC c).isAnchor = false → False := by
        intro c hc hkc
        rw [← kind_cls (pc := pc) (ea := evalA tm1), hc, hkc] at hk
        cases hk
      rcases c5.2.2.2 with ⟨w1, e1, _, e3⟩ | ⟨w1, ⟨b, q1, _⟩ | ⟨f, b, q1, _⟩ | ⟨b, mk, q1, _⟩ | ⟨_, q2, _⟩⟩
      · rw [LkR_want hp hlk w1]
        simp only [Bool.false_eq_true, if_false]
        refine ⟨fun _ _ => trivial, step undef w μ ?_ ?_ ?_ ?_⟩
        · rw [e3]; exact R1
        · rw [e3]; exact Stp.refl _ _ _ _
        · rw [e3]; exact Nat.le_refl _
        · intro b hb; rw [e1] at hb; cases hb; exact VR_undef
      · exact (notk _ q1 rfl).elim
      · exact (notk _ q1 rfl).elim
      · exact (notk _ q1 rfl).elim
      · rw [LkR_want hp hlk w1]
        simp only [if_true]
        exact opA_spec rOK xOK hp R1 (LkR_ea hlk R1.glob) q2 step

/-- Regions whose order is open. -/
theorem regionD_spec {μ : Mu} {w : World} (rOK : RecOK P ρ r) (xOK : HooksOK P ρ X pc) (hp : pc.holds ρ) {tm tm' : Tm} {h h' : H} {a : Act} {Q : Exit → Act → World → Prop}
    (A : AR ρ μ fr tm ms a) (R : Rel ρ μ h.get h.next w) (hr : regionD P X pc r fr ops.toList tm h = .ok (tm', h'))
    (K : ∀ μ' a' w', AR ρ μ' fr tm' ms a' → Rel ρ μ' h'.get h'.next w' → Stp μ h.get h.next w μ' h'.get w' → h.next ≤ h'.next → Q .normal a' w') :
    wpAnyIn (fen ro) 0 P .any ops Q ops.size (Array.replicate ops.size false) a w := by
  unfold regionD at hr
  rcases cond_eq hr with ⟨h1, hr⟩ | ⟨_, hr⟩
  · have F := regOK_form h1
    obtain ⟨T, sn', hT⟩ := opsD_along P pc X r fr ops _ _ hr
    obtain ⟨d1, d2, d3, d4⟩ := along_done hT
    -- what each operation has told
    have look : ∀ {T : Tr}, (T.map (·.1)).Nodup → ∃ (val : Nat → Option AV) (blk : Nat → Option Blk), (∀ x ∈ T, val x.1 = x.2.1) ∧ ∀ x ∈ T, blk x.1 = x.2.2 := by
      intro T
      induction T with
      | nil => intro _; exact ⟨fun _ => none, fun _ => none, (fun x hx => by cases hx), (fun x hx => by cases hx)⟩
      | cons y T ih =>
        intro hn
        simp only [List.map_cons, List.nodup_cons] at hn
        obtain ⟨val, blk, h1, h2⟩ := ih hn.2
        have ne : ∀ x ∈ T, x.1 ≠ y.1 := fun x hx e => hn.1 (by rw [← e]; exact List.mem_map_of_mem hx)
        refine ⟨upd val y.1 y.2.1, upd blk y.1 y.2.2, ?_, ?_⟩
        · intro x hx
          rcases List.mem_cons.1 hx with rfl | hx
          · simp [upd]
          · unfold upd; rw [if_neg (ne x hx)]; exact h1 x hx
        · intro x hx
          rcases List.mem_cons.1 hx with rfl | hx
          · simp [upd]
          · unfold upd; rw [if_neg (ne x hx)]; exact h2 x hx
    obtain ⟨val, blk, hv, hb⟩ := look d3
    have hd0 : ∀ i, dOf (Array.replicate ops.size false) i = false := by
      intro i
      unfold dOf
      rw [Array.getD_eq_getD_getElem?]
      by_cases hi : i < ops.size
      · simp [hi]
      · simp [hi]
    have hlw : ∀ (D : Nat → Bool), (∀ i, D i = false) → ∀ t n, lw ops D t n = none := by
      intro D hD t n
      induction n with
      | zero => rfl
      | succ n ih => simp only [lw, hD, ih]; simp
    have hund : ∀ (D : Nat → Bool), (∀ i, D i = false) → ∀ n, und D n = n := by
      intro D hD n
      induction n with
      | zero => rfl
      | succ n ih => simp only [und, hD, ih]; simp
    have hg0 : gOf blk h.next ⟨h.next + ops.toList.length, h.tr⟩ T (dOf (Array.replicate ops.size false)) = h.get := by
      funext id
      unfold gOf
      rw [if_neg (by rw [hd0]; rintro ⟨_, hh, _⟩; cases hh)]
      rfl
    have hnone : ∀ i, h.get (h.next + i) = none := by
      intro i
      cases hg : h.get (h.next + i) with
      | none => rfl
      | some b =>
        obtain ⟨p, _, hp, _⟩ := R.blk _ _ hg
        have := R.fresh _ _ hp
        omega
    have hlen : ops.toList.length = ops.size := Array.length_toList
    refine sim (fr := fr) (base := h.next) (bs := befs ops.toList []) (T := T) (val := val) (blk := blk) (tm0 := tm) (μ0 := μ) (g0 := h.get) (w0 := w) (ms := ms) (hE := h') (tmE := tm') (snE := sn') (full := Nat.shiftLeft 1 ops.toList.length - 1) rOK xOK hp F hv hb ?_
      ops.size (Array.replicate ops.size false) a w μ T tm ⟨h.next + ops.toList.length, h.tr⟩ [] 0 (by simp) (by rw [hund _ hd0]; exact Nat.le_refl _) ?_
    · intro μ' a' w' q1 q2 q3 q4 q5 q6
      refine K μ' a' w' ⟨q2, q1, q3, ?_⟩ q4 q5 q6
      have := along_tm (val := val) (tm0 := tm) F hT hv (fun t => by
        unfold tmD
        rw [hlw _ (fun i => bit_zero i)]) (fun j k hj => by rw [bit_zero] at hj; cases hj)
      rw [this.2.2]; exact A.mask
    · refine ⟨hT, fun x hx => hx, ?_, ?_, ?_, ?_, ?_, ?_, ?_, ?_, ?_, ?_, A.size, A.dfr, ?_, ?_⟩
      · intro t
        unfold tmD
        rw [hlw _ (fun i => bit_zero i)]
      · intro j k hj; rw [bit_zero] at hj; cases hj
      · intro j hj; rw [bit_zero] at hj; cases hj
      · intro x _ o _ hd; rw [hd0] at hd; cases hd
      · intro j k _ hd; rw [hd0] at hd; cases hd
      · rw [hg0]
        exact R.sub (fun _ _ hh => hh) (Nat.le_add_right _ _)
      · show h.next + ops.size ≤ h.next + ops.toList.length
        rw [hlen]; exact Nat.le_refl _
      · intro i _ _
        cases hm : μ (h.next + i) with
        | none => rfl
        | some p => have := R.fresh _ _ hm; omega
      · intro x _
        exact hnone x.1
      · intro t v ht
        unfold tmD at ht
        rw [hlw _ hd0] at ht
        exact A.tmr t v ht
      · rw [hg0]; exact Stp.refl _ _ _ _
      · intro i hi
        right
        have := (d1 i).1 (by rw [bit_full, hlen]; exact decide_eq_true hi)
        rcases this with hh | hh
        · rw [bit_zero] at hh; cases hh
        · exact hh
  · cases hr

end
end Go.Ev
