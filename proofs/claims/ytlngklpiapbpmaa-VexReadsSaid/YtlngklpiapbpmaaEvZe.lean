/- Functions that read the first three bytes of a slice of any length: summaries by cases; laws over a slice of bytes; no theorem of the program yet; no conditions. -/
import Derived.Test.YtlngklpiapbpmaaEvZd
import Derived.Below
set_option linter.unusedSimpArgs false
set_option linter.unusedVariables false
namespace Go.Ev

/-! ### Values that are the same under a path's conditions -/
noncomputable def sameSE (pc : PC) (a b : SE) : Bool := isSome true (dec pc (.eq a b))
mutual
noncomputable def AV.same (pc : PC) : AV → AV → Bool
  | .int k a, .int l b => ikBeq k l && sameSE pc a b
  | .agg a, .agg b => avsSame pc a b
  | .tup a, .tup b => avsSame pc a b
  | _, _ => false
noncomputable def avsSame (pc : PC) : List AV → List AV → Bool
  | [], [] => true
  | a :: as, b :: bs => a.same pc b && avsSame pc as bs
  | _, _ => false
end

noncomputable def pcBeq : PC → PC → Bool
  | [], [] => true
  | (a, s) :: r, (b, t) :: q => (s == t) && (a.beq b && pcBeq r q)
  | _, _ => false

noncomputable def findPC (pc : PC) (h : H) : List (PC × AV) → Res (AV × H)
  | [] => .fail "a case that is not told"
  | (p, v) :: r => bif pcBeq p pc then .ok (v, h) else findPC pc h r

/-- A function of a slice of n bytes of which the first three are the variables 0, 1, 2; its value, by cases. -/
noncomputable def readS (n : Nat) (cs : List (PC × AV)) : PC → List AV → H → Res (AV × H) := fun pc args h =>
  match args with
  | [.slc id off m _ _ es] => bif Nat.beq m n && Nat.beq es 1 then
      (rd h id off 3).bind fun l => (match l with
        | [.int .u8 (.var 0), .int .u8 (.var 1), .int .u8 (.var 2)] => findPC pc h cs
        | _ => .fail "other bytes")
      else .fail "another length"
  | _ => .fail "no such slice"

noncomputable def H3 : H := ⟨65, T.put .nil 64 (.cells false true 5 3 (T.puts .nil 0 [.int .u8 (.var 0), .int .u8 (.var 1), .int .u8 (.var 2)]))⟩

noncomputable def chkRead (P : Program) (X : Hooks) (k f : Nat) (x : PC × AV) : Bool :=
  match run P X x.1 k f [.slv 64 0 3 (.var 3) 1] H3 with
  | .ok (v, _) => v.same x.1 x.2
  | _ => false

section
variable {ρ : Env} {P : Program} {pc : PC} {X : Hooks}

mutual
theorem AV.same_spec {μ μ' : Mu} (hp : pc.holds ρ) : ∀ {a b : AV} {v : Value}, a.same pc b = true → VR ρ μ a v → VR ρ μ' b v
  | .int k a, b, v, h, hv => by
    cases b <;> simp only [AV.same, Bool.and_eq_true] at h <;> first | (cases h; done) | skip
    rename_i l b
    rw [VR] at hv ⊢
    have h1 := dec_spec hp (isSome_eq h.2)
    simp only [SB.den, beq_iff_eq] at h1
    rw [hv, ikBeq_eq h.1, h1]
  | .agg a, b, v, h, hv => by
    cases b <;> simp only [AV.same] at h <;> first | (cases h; done) | skip
    rw [VR] at hv ⊢
    obtain ⟨ys, rfl, hv⟩ := hv
    exact ⟨ys, rfl, avsSame_spec hp h hv⟩
  | .tup a, b, v, h, hv => by
    cases b <;> simp only [AV.same] at h <;> first | (cases h; done) | skip
    rw [VR] at hv ⊢
    obtain ⟨ys, rfl, hv⟩ := hv
    exact ⟨ys, rfl, avsSame_spec hp h hv⟩
  | .bool _, _, _, h, _ => by simp [AV.same] at h
  | .str _ _, _, _, h, _ => by simp [AV.same] at h
  | .nilp, _, _, h, _ => by simp [AV.same] at h
  | .ptr _ _, _, _, h, _ => by simp [AV.same] at h
  | .nils, _, _, h, _ => by simp [AV.same] at h
  | .slc .., _, _, h, _ => by simp [AV.same] at h
  | .emp, _, _, h, _ => by simp [AV.same] at h
  | .slv .., _, _, h, _ => by simp [AV.same] at h
  | .nilm, _, _, h, _ => by simp [AV.same] at h
  | .map _, _, _, h, _ => by simp [AV.same] at h
  | .nilf, _, _, h, _ => by simp [AV.same] at h
  | .func _ _ _, _, _, h, _ => by simp [AV.same] at h
  | .nili, _, _, h, _ => by simp [AV.same] at h
  | .iface _ _, _, _, h, _ => by simp [AV.same] at h
theorem avsSame_spec {μ μ' : Mu} (hp : pc.holds ρ) : ∀ {a b : List AV} {v : List Value}, avsSame pc a b = true → VRs ρ μ a v → VRs ρ μ' b v
  | [], b, v, h, hv => by
    cases b <;> simp only [avsSame] at h <;> first | (cases h; done) | skip
    exact hv
  | a :: as, b, v, h, hv => by
    cases b <;> simp only [avsSame, Bool.and_eq_true] at h <;> first | (cases h; done) | skip
    rw [VRs_cons] at hv ⊢
    obtain ⟨y, r, rfl, h1, h2⟩ := hv
    exact ⟨y, r, rfl, AV.same_spec hp h.1 h1, avsSame_spec hp h.2 h2⟩
end

theorem pcBeq_eq : ∀ {a b : PC}, pcBeq a b = true → a = b
  | [], [], _ => rfl
  | [], _ :: _, h => by simp [pcBeq] at h
  | _ :: _, [], h => by simp [pcBeq] at h
  | (a, s) :: r, (b, t) :: q, h => by
    simp only [pcBeq, Bool.and_eq_true] at h
    rw [eq_of_beq h.1, SB.beq_eq h.2.1, pcBeq_eq h.2.2]

theorem findPC_mem {h h' : H} {v : AV} : ∀ {cs : List (PC × AV)}, findPC pc h cs = .ok (v, h') → (pc, v) ∈ cs ∧ h' = h
  | [], h => by cases h
  | (p, u) :: r, hr => by
    unfold findPC at hr
    rcases cond_eq hr with ⟨h1, h2⟩ | ⟨_, h2⟩
    · cases h2; rw [pcBeq_eq h1]; exact ⟨List.mem_cons_self, rfl⟩
    · obtain ⟨h3, h4⟩ := findPC_mem h2; exact ⟨List.mem_cons_of_mem _ h3, h4⟩

/-- What owned nothing, and told nothing of new memory, leaves all that was related. -/
theorem lift1 {μ μ0 μ1 : Mu} {g g0 g1 : G} {nx nx0 : Nat} {w w' : World} (R : Rel ρ μ g nx w) (S : Stp μ0 g0 nx0 w μ1 g1 w') (hg : ∀ id b, g0 id = some b → b.own = false) : Rel ρ μ g nx w' ∧ Stp μ g nx w μ g w' := by
  have hk : ∀ b, b < w.heap.size → w'.heap[b]? = w.heap[b]? := fun b hb => S.frame b hb fun id bk p h ho => by rw [hg id bk h] at ho; cases ho
  refine ⟨⟨?_, R.inj, R.fresh, R.glob⟩, Mu.le_refl _, fun _ _ h => .inl h, fun id b h => .inl ⟨b, h⟩, S.size, S.tape, S.os, S.output, fun b hb _ => hk b hb, fun id bk p h h' => .inr ⟨id, bk, p, h, h', rfl, fun h => h⟩, S.fz⟩
  intro id b hb
  obtain ⟨p, o, h1, h2, h3⟩ := R.blk id b hb
  exact ⟨p, o, h1, by rw [hk _ (Array.getElem?_eq_some_iff.1 h2).1]; exact h2, h3⟩

theorem H3_get {id : Nat} {b : Blk} (h : H3.get id = some b) : id = 64 ∧ b = .cells false true 5 3 (T.puts .nil 0 [.int .u8 (.var 0), .int .u8 (.var 1), .int .u8 (.var 2)]) := by
  have h' : ((T.nil : T Blk).put 64 (.cells false true 5 3 (T.puts .nil 0 [.int .u8 (.var 0), .int .u8 (.var 1), .int .u8 (.var 2)]))).get id = some b := h
  rw [T.get_put] at h'
  split at h'
  · rename_i q; cases h'; exact ⟨q, rfl⟩
  · rw [T.get_nil] at h'; cases h'

theorem readS_ok {k f n : Nat} {cs : List (PC × AV)} (hp : pc.holds ρ) (hn : ρ.v 3 = n) (h3 : 3 ≤ n) (hm : P.follows .mixedOrders = true) (hX : ∀ pc, HooksOK P ρ X pc) (hx : X.ext f = none)
    (hfn : ∃ fn, P.funcs[f]? = some fn ∧ fn.body.isNone = false ∧ (fn.name == "runtime.NumGoroutine") = false)
    (hcs : cs.all (chkRead P X k f) = true) : FnOK P ρ (readS n cs pc) f := by
  intro args h v h' hr
  refine ⟨hfn, ?_⟩
  intro μ w us R hv
  unfold readS at hr
  split at hr
  · rename_i id off m ex cap es
    rcases cond_eq hr with ⟨g1, g2⟩ | ⟨_, g2⟩
    · simp only [Bool.and_eq_true] at g1
      have hmn := beq_eq g1.1
      have hes := beq_eq g1.2
      subst hmn; subst hes
      obtain ⟨l, g3, g4⟩ := Res.bind_eq_ok g2
      split at g4
      · obtain ⟨g5, rfl⟩ := findPC_mem g4
        obtain ⟨p, xs, c, e, fr, hp1, ho, hsz, hfit, hxs, hxl, hc⟩ := rd_spec R (fun b h => h) g3
        rw [VRs_cons] at hv
        obtain ⟨y, r, e1, q1, q2⟩ := hv
        rw [VRs_nil] at q2
        subst q2
        rw [VR] at q1
        obtain ⟨p', cp, hp2, rfl, _⟩ := q1
        rw [hp1] at hp2
        cases hp2
        have hck := List.all_eq_true.1 hcs _ g5
        unfold chkRead at hck
        split at hck
        · rename_i v1 hh1 hrun
          let μ3 : Mu := fun k => if k = 64 then some (p.1, p.2.1 + off, p.2.2) else muG μ k
          have R3 : Rel ρ μ3 H3.get H3.next w := by
            refine ⟨?_, ?_, ?_, ?_⟩
            · intro id' b hb
              obtain ⟨rfl, rfl⟩ := H3_get hb
              refine ⟨(p.1, p.2.1 + off, p.2.2), _, by simp [μ3], ho, c, e, fr, rfl, hsz, hfit, (fun h => by cases h), ?_⟩
              intro j u hj hu
              have hu' := puts_get hu
              have key : ∀ (l : List AV) (xs : List Value), VRs ρ μ l xs → (∀ u ∈ l, ∀ x, VR ρ μ u x → VR ρ μ3 u x) → ∀ (j : Nat) (u : AV), l[j]? = some u → ∃ x : Value, xs[j]? = some x ∧ VR ρ μ3 u x := by
                intro l
                induction l with
                | nil => intro xs _ _ j u h; simp at h
                | cons a l ih =>
                  intro xs hv hall j u h
                  rw [VRs_cons] at hv
                  obtain ⟨y, r, rfl, h1, h2⟩ := hv
                  cases j with
                  | zero => simp at h; subst h; exact ⟨y, rfl, hall _ List.mem_cons_self _ h1⟩
                  | succ j => simp at h; obtain ⟨x, h3, h4⟩ := ih r h2 (fun u hu => hall u (List.mem_cons_of_mem _ hu)) j u h; exact ⟨x, by simpa using h3, h4⟩
              obtain ⟨x, z1, z2⟩ := key _ _ hxs (by
                intro u hu x hx
                simp only [List.mem_cons, List.mem_nil_iff, or_false] at hu
                rcases hu with rfl | rfl | rfl <;> (rw [VR] at hx ⊢; exact hx)) j u hu'
              exact ⟨x, hc j x z1, z2⟩
            · intro i j b b' q q' hi hj hb
              obtain ⟨rfl, rfl⟩ := H3_get hi
              cases hb
            · intro id' q hq
              show id' < 65
              simp only [μ3] at hq
              split at hq
              · omega
              · unfold muG at hq
                split at hq
                · omega
                · cases hq
            · intro k hk
              obtain ⟨z, hz⟩ := R.glob k hk
              exact ⟨z, by simp only [μ3]; rw [if_neg (by omega)]; unfold muG; rw [if_pos hk]; exact hz⟩
          have hv3 : VRs ρ μ3 [.slv 64 0 3 (.var 3) 1] us.toList := by
            rw [VRs_cons]
            refine ⟨_, _, e1, ?_, VRs_nil.2 rfl⟩
            rw [VR]
            exact ⟨(p.1, p.2.1 + off, p.2.2), cp, _, by simp, by simp [μ3], by simp [SE.den, hn], h3⟩
          refine callsIn_wide.2 ((run_sound (hX pc) hp hm R3 hv3 hx hrun).mono ?_)
          rintro e' w' ⟨x, μ1, rfl, hx', _, S1, _⟩
          obtain ⟨R', S'⟩ := lift1 R S1 (fun id b h => by obtain ⟨_, rfl⟩ := H3_get h; rfl)
          exact ⟨x, μ, rfl, AV.same_spec hp hck hx', R', S', Nat.le_refl _⟩
        · cases hck
      · cases g4
    · cases g2
  · cases hr

/-- A function that tells 'true' under each of some cases, of which one is there; from any memory of which nothing is owned. -/
theorem calls_casesH {h0 : H} {μ0 : Mu} {k f : Nat} {as : List AV} {us : Array Value} {pcs : List PC} {w : World} (hm : P.follows .mixedOrders = true) (hX : ∀ pc, pc.holds ρ → HooksOK P ρ X pc) (hx : X.ext f = none)
    (h : pcs.all (fun pc => isT pc (run P X pc k f as h0)) = true) (hp : ∃ pc ∈ pcs, PC.holds ρ pc) (R : Rel ρ μ0 h0.get h0.next w) (hg : ∀ id b, h0.get id = some b → b.own = false) (hv : VRs ρ μ0 as us.toList) :
    Calls P f us w fun e w' => e = .returned (.bool true) ∧ Go.RowKit.Below w.heap.size w w' := by
  obtain ⟨pc, h1, h2⟩ := hp
  obtain ⟨b, h', h3, h4⟩ := isT_spec h2 (List.all_eq_true.1 h pc h1)
  refine (run_sound (hX pc h2) h2 hm R hv hx h3).mono ?_
  rintro e w' ⟨x, μ', rfl, h5, _, S, _⟩
  rw [VR] at h5
  subst h5
  exact ⟨by rw [h4], S.os, S.tape, S.output, S.size, fun k hk => S.frame k hk fun id bk p h ho => by rw [hg id bk h] at ho; cases ho⟩

end
end Go.Ev
