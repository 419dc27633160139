/- The evaluator's loads, stores and new blocks are the model's; no theorem of the program yet; no conditions. -/
import Derived.Test.YtlngklpiapbpmaaEvL
import Derived.Laws.Runes
set_option linter.unusedSimpArgs false
set_option linter.unusedVariables false
namespace Go.Ev
section
variable {ρ : Env} {μ : Mu} {P : Program} {pc : PC} {w : World} {g : G} {nx : Nat}

/-- What an operation that is no call comes to. -/
def Done (ρ : Env) (μ : Mu) (g : G) (nx0 : Nat) (w : World) (g' : G) (nx' : Nat) (v : Option AV) (res : Result Next) : Prop :=
  ∃ x w' μ', (res = .ok (.value x) w' ∨ (res = .ok .skip w' ∧ x = undef)) ∧ Rel ρ μ' g' nx' w' ∧ Stp μ g nx0 w μ' g' w' ∧ ∀ a, v = some a → VR ρ μ' a x

theorem Done.same {v : Option AV} {res : Result Next} (R : Rel ρ μ g nx w) {x : Value} (h : res = .ok (.value x) w) (hv : ∀ a, v = some a → VR ρ μ a x) : Done ρ μ g nx w g nx v res :=
  ⟨x, w, μ, .inl h, R, Stp.refl _ _ _ _, hv⟩

theorem VRs_size {as : List AV} {xs : Array Value} (h : VRs ρ μ as xs.toList) : as.length = xs.size := by rw [VRs_length h]; exact Array.length_toList

theorem fillA_length {pl : Nat → Option (Nat × Nat)} : ∀ {parts : List (Nat × AV)} {cells r : List AV}, fillA pl cells parts = some r → r.length = cells.length := by
  intro parts
  induction parts with
  | nil => intro cells r h; cases h; rfl
  | cons p parts ih =>
    obtain ⟨i, a⟩ := p
    intro cells r h
    simp only [fillA] at h
    split at h
    · cases h
    · rcases cond_eq h with ⟨_, h2⟩ | ⟨_, h2⟩
      · rw [ih h2, layA_length]
      · cases h2

/-! ### Loads -/
theorem rd_spec {h : H} {id off n : Nat} {cs : List AV} (R : Rel ρ μ g nx w) (hb : ∀ b, h.get id = some b → g id = some b) (hr : rd h id off n = .ok cs) :
    ∃ p xs c e fr, μ id = some p ∧ w.heap[p.1]? = some (.cells c e fr) ∧ p.2.2 = c.size ∧ p.2.1 + off + n ≤ c.size ∧ VRs ρ μ cs xs ∧ xs.length = n ∧ ∀ j x, xs[j]? = some x → c[p.2.1 + off + j]? = some x := by
  unfold rd at hr
  split at hr
  · rename_i own opn ety m vals he
    rcases cond_eq hr with ⟨h1, h2⟩ | ⟨_, h2⟩
    · clear hr
      have h1 : off + n ≤ m := by simpa using h1
      have h3 := Res.ofO_eq_ok h2
      obtain ⟨h4, h5⟩ := T.gets_spec _ _ _ _ h3
      obtain ⟨p, o, hp, ho, c, e, fr, rfl, h6, h7, _, h8⟩ := R.blk _ _ (hb _ he)
      have hl : ((c.toList.drop (p.2.1 + off)).take n).length = n := by simp; omega
      have hx : ∀ j x, ((c.toList.drop (p.2.1 + off)).take n)[j]? = some x → c[p.2.1 + off + j]? = some x := by
        intro j x hx
        rw [List.getElem?_take] at hx
        split at hx
        · rw [List.getElem?_drop, Array.getElem?_toList] at hx; exact hx
        · cases hx
      refine ⟨p, (c.toList.drop (p.2.1 + off)).take n, c, e, fr, hp, ho, h6, by omega, VRs_of_get (by rw [hl, h4]) ?_, hl, hx⟩
      intro i a v ha hv
      have hi : i < n := by rw [← h4]; exact (List.getElem?_eq_some_iff.1 ha).1
      obtain ⟨x, h9, h10⟩ := h8 (off + i) a (by omega) (h5 i a ha)
      have h11 := hx i v hv
      rw [Nat.add_assoc, h9] at h11
      cases h11
      exact h10
    · cases h2
  · cases hr

theorem cell_at {c : Array Value} {e : TypeId} {fr : Nat × Nat} {b j : Nat} (h : w.heap[b]? = some (.cells c e fr)) : w.cell? ⟨b, j, none⟩ = c[j]? := by simp [World.cell?, h]

theorem aLoad_spec {h : H} {t : Nat} {a r : AV} {v : Value} (R : Rel ρ μ g nx w) (hb : ∀ id b, (∃ off, a = .ptr id off) → h.get id = some b → g id = some b) (hv : VR ρ μ a v) (hr : aLoad P h t a = .ok r) :
    ∃ y, (Instr.loadAt t v).run P w = .ok y w ∧ VR ρ μ r y := by
  unfold aLoad at hr
  split at hr
  · rename_i id off
    obtain ⟨ti, h1, h0⟩ := Res.bind_eq_ok hr
    have hi := tdR_spec h1
    rw [VR] at hv
    obtain ⟨p, hp, rfl⟩ := hv
    rcases cond_eq h0 with ⟨h2, h3⟩ | ⟨h2, h3⟩
    · obtain ⟨cs, h4, h5⟩ := Res.bind_eq_ok h3
      cases h5
      obtain ⟨p', xs, c, e, fr, hp', ho, _, _, hx, hl, hc⟩ := rd_spec R (fun b => hb id b ⟨off, rfl⟩) h4
      rw [hp] at hp'
      cases hp'
      refine ⟨.agg xs.toArray, ?_, by rw [VR]; exact ⟨_, rfl, hx⟩⟩
      have := run_loadCells_list (P := P) w ⟨p.1, p.2.1 + off, none⟩ xs (fun j x hx => by rw [addr_add, cell_at ho]; exact hc j x hx)
      rw [hl] at this
      simp [Instr.loadAt, Instr.sureAddr, loadVar, run_isAgg hi, run_size hi, h2, this]
    · obtain ⟨cs, h4, h5⟩ := Res.bind_eq_ok h3
      split at h5
      · cases h5
        obtain ⟨p', xs, c, e, fr, hp', ho, _, _, hx, hl, hc⟩ := rd_spec R (fun b => hb id b ⟨off, rfl⟩) h4
        rw [hp] at hp'
        cases hp'
        rw [VRs_cons] at hx
        obtain ⟨y, ys, rfl, hy, _⟩ := hx
        refine ⟨y, ?_, hy⟩
        have := hc 0 y rfl
        have h6 : w.cell? ⟨p.1, p.2.1 + off, none⟩ = some y := by rw [cell_at ho]; exact this
        simp [Instr.loadAt, Instr.sureAddr, loadVar, run_isAgg hi, h2, h6]
      · cases h5
  · cases hr

theorem wrap_i64_nat {n : Nat} (h : n ≤ 140737488355328) : IntKind.i64.wrap (n : Int) = n := wrap_small _ (by omega) (by omega)

/-! ### New blocks -/
theorem blkOf_BR {p : Loc} {opn : Bool} {e : Nat} {cs : List AV} {xs : Array Value} (hv : VRs ρ μ cs xs.toList) (hp : p.2.1 = 0) (hp2 : p.2.2 = xs.size) : BR ρ μ p (blkOf opn e cs) (.cells xs e (0, 0)) := by
  have hl := VRs_size hv
  refine ⟨xs, e, (0, 0), rfl, hp2, by omega, fun _ => ⟨hp, rfl, rfl, fun _ => hl⟩, ?_⟩
  intro j v hj h
  rw [T.get_puts, if_pos (by omega), Nat.sub_zero] at h
  obtain ⟨x, h1, h2⟩ := VRs_get hv _ _ h
  rw [Array.getElem?_toList] at h1
  exact ⟨x, by rw [hp, Nat.zero_add]; exact h1, h2⟩

theorem repA_get : ∀ (n : Nat) (z : List AV) (j : Nat), (repA z n).length = n * z.length ∧ (j < n * z.length → (repA z n)[j]? = z[j % z.length]?) := by
  intro n z
  induction n with
  | zero => intro j; simp [repA]
  | succ n ih =>
    intro j
    have hl : (repA z (n + 1)).length = (n + 1) * z.length := by simp [repA, (ih 0).1, Nat.add_mul, Nat.add_comm]
    refine ⟨hl, fun hj => ?_⟩
    simp only [repA]
    by_cases h : j < z.length
    · rw [List.getElem?_append_left h, Nat.mod_eq_of_lt h]
    · have h : z.length ≤ j := Nat.le_of_not_lt h
      rw [List.getElem?_append_right h, (ih (j - z.length)).2 (by rw [Nat.add_mul] at hj; omega)]
      congr 1
      exact (Nat.mod_eq_sub_mod h).symm

theorem repA_VRs {n m : Nat} {z : List AV} {zc : Array Value} (hz : VRs ρ μ z zc.toList) (hm : m = n * z.length) : VRs ρ μ (repA z n) ((Array.range m).map (fun i => zc[i % zc.size]!)).toList := by
  have hl := VRs_size hz
  refine VRs_of_get (by simp [(repA_get n z 0).1, hm]) ?_
  intro i a v ha hv
  have hi : i < n * z.length := by rw [← (repA_get n z 0).1]; exact (List.getElem?_eq_some_iff.1 ha).1
  rw [(repA_get n z i).2 hi] at ha
  obtain ⟨x, h1, h2⟩ := VRs_get hz _ _ ha
  have hlt : i % zc.size < zc.size := by
    rw [← hl]
    exact Nat.mod_lt _ (Nat.pos_of_ne_zero (fun e => by rw [e] at hi; omega))
  simp only [Array.toList_map, Array.toList_range, List.getElem?_map, List.getElem?_range (hm ▸ hi), Option.map_some, Option.some.injEq] at hv
  rw [Array.getElem?_toList, hl] at h1
  rw [getElem!_pos zc _ hlt] at hv
  rw [Array.getElem?_eq_getElem hlt] at h1
  cases h1
  rw [← hv]; exact h2

/-- One of the operations that make a block: whatever number it gets. -/
theorem alloc_spec (hp : pc.holds ρ) {o : Oper} {ea : Operand → Res AV} {rv : Operand → Value} {b : Blk} {mk : Nat → AV} (he : EaR ρ μ o.op ea rv) (h : cls P pc ea o.op = .alloc (.ok (b, mk))) :
    ∃ c e v, (execOp rv o).run P w = .ok (.value v) (w.alloc (.cells c e)) ∧ b.own = true ∧
      ∀ μ' : Mu, μ.le μ' → ∀ id, μ' id = some (w.heap.size, 0, c.size) → BR ρ μ' (w.heap.size, 0, c.size) b (.cells c e) ∧ VR ρ μ' (mk id) v := by
  cases ho : o.op with
  | alloc e =>
    rw [ho] at h
    have h0 : Cls.alloc ((tdR P e).bind fun ti => .ok (blkOf false e ti.zero, fun id => .ptr id 0)) = .alloc (.ok (b, mk)) := h
    injection h0 with h0
    obtain ⟨ti, h1, h2⟩ := Res.bind_eq_ok h0
    cases h2
    obtain ⟨z, hz, hzr⟩ := run_zero (tdR_spec h1) w
    refine ⟨z.cells, e, .pointer (some ⟨w.heap.size, 0, none⟩), by simp [execOp, ho, Instr.alloc, hz, newVar, newRow], rfl, fun μ' _ id hid => ⟨blkOf_BR (hzr _ _) rfl rfl, ?_⟩⟩
    rw [VR]
    exact ⟨_, hid, rfl⟩
  | box e x =>
    rw [ho] at h he
    have h0 : Cls.alloc ((ea x).bind fun v => .ok (blkOf false e v.cells, fun id => .ptr id 0)) = .alloc (.ok (b, mk)) := h
    injection h0 with h0
    obtain ⟨a, h1, h2⟩ := Res.bind_eq_ok h0
    cases h2
    have hv := he x (by simp [Op.operands]) a h1
    refine ⟨(rv x).cells, e, .pointer (some ⟨w.heap.size, 0, none⟩), by simp [execOp, ho, Instr.box, newVar, newRow], rfl, fun μ' hle id hid => ⟨blkOf_BR (VRs_mono hle (VR_cells hv)) rfl rfl, ?_⟩⟩
    rw [VR]
    exact ⟨_, hid, rfl⟩
  | buildSlice t n parts =>
    rw [ho] at h he
    have h0 : Cls.alloc ((partsA ea parts.toList).bind (aBuildSlice P t n)) = .alloc (.ok (b, mk)) := h
    injection h0 with h0
    obtain ⟨ps, h1, h2⟩ := Res.bind_eq_ok h0
    have h3 := partsA_spec (ρ := ρ) (μ := μ) (rv := rv) (fun x hx a h => he x.2 (by simp only [Op.operands, List.mem_toArray]; exact List.mem_map_of_mem hx) a h) h1
    unfold aBuildSlice at h2
    obtain ⟨ti, h4, h5⟩ := Res.bind_eq_ok h2
    split at h5
    · rename_i e hd
      obtain ⟨te, h6, h7⟩ := Res.bind_eq_ok h5
      rcases cond_eq h7 with ⟨h8, h9⟩ | ⟨_, h9⟩
      · split at h9
        · rename_i cs hcs
          cases h9
          simp only [Bool.and_eq_true] at h8
          have e1 : n * te.size ≤ 16777216 := by simpa using h8.1
          have e2 : 1 ≤ te.size := by simpa using h8.2.1
          have e3 := beq_eq h8.2.2
          obtain ⟨z, hz, hzr⟩ := run_zero (tdR_spec h6) w
          have hzl : VRs ρ μ te.zero z.cells.toList := hzr _ _
          have hrep : VRs ρ μ (repA te.zero n) ((Array.range (n * te.size)).map (fun i => (if n * te.size = 0 then #[] else z.cells)[i % (if n * te.size = 0 then #[] else z.cells).size]!)).toList := by
            by_cases h0 : n * te.size = 0
            · have : n = 0 := by rcases Nat.mul_eq_zero.1 h0 with h | h <;> omega
              subst this
              simp [repA, VRs_nil]
            · rw [if_neg h0]
              exact repA_VRs hzl (by rw [e3])
          obtain ⟨ys, h10, h11⟩ := fillA_spec (pl' := fun i => some (i * te.size, te.size)) (fun i x hx => hx) h3 hrep hcs
          have hlen : ys.size = n * te.size := by
            have := VRs_size h11
            rw [fillA_length hcs, (repA_get n te.zero 0).1, e3] at this
            exact this.symm
          refine ⟨ys, e, .slice (some ⟨w.heap.size, 0, none⟩) n n, ?_, rfl, fun μ' hle id hid => ⟨blkOf_BR (VRs_mono hle h11) rfl rfl, ?_⟩⟩
          · have hlim : ¬ (n * te.size > 2 ^ 24) := by simp; omega
            by_cases h0 : n * te.size = 0
            · simp only [h0, if_true] at h10
              simp at h10
              simp [execOp, ho, Instr.buildSlice, run_und (td_slc (tdR_spec h4) hd), run_size (tdR_spec h6), h0, h10, newRow]
            · simp only [h0, if_false] at h10
              simp [execOp, ho, Instr.buildSlice, run_und (td_slc (tdR_spec h4) hd), run_size (tdR_spec h6), h0, hz, hlim, h10, newRow]
          · rw [VR]
            exact ⟨_, n, hid, rfl, fun _ => rfl, Nat.le_refl _, Nat.le_refl _, by simp only; omega⟩
        · cases h9
      · cases h9
    · cases h5
  | makeSlice t l c =>
    rw [ho] at h he
    have h0 : Cls.alloc ((ea l).bind fun l => (ea c).bind fun c => (asI pc l).bind fun l => (asI pc c).bind fun c => aMakeSlice P t l c) = .alloc (.ok (b, mk)) := h
    injection h0 with h0
    obtain ⟨la, h1, h2⟩ := Res.bind_eq_ok h0
    obtain ⟨ca, h3, h4⟩ := Res.bind_eq_ok h2
    obtain ⟨⟨lk, le⟩, h5, h6⟩ := Res.bind_eq_ok h4
    obtain ⟨⟨ck, ce⟩, h7, h8⟩ := Res.bind_eq_ok h6
    have hl := asI_spec hp (he l (by simp [Op.operands]) la h1) h5
    have hc := asI_spec hp (he c (by simp [Op.operands]) ca h3) h7
    unfold aMakeSlice at h8
    obtain ⟨ti, h9, h10⟩ := Res.bind_eq_ok h8
    split at h10
    · rename_i e l' c' hd q1 q2
      cases q1; cases q2
      obtain ⟨te, h11, h12⟩ := Res.bind_eq_ok h10
      rcases cond_eq h12 with ⟨h13, h14⟩ | ⟨_, h14⟩
      · cases h14
        simp only [Bool.and_eq_true] at h13
        have e1 : l' ≤ c' := by simpa using h13.1
        have e2 : c' * te.bytes ≤ 140737488355328 := by simpa using h13.2.1
        have e3 : c' ≤ 140737488355328 := by simpa using h13.2.2.1
        have e4 : 1 ≤ te.size := by simpa using h13.2.2.2.1
        have e5 := beq_eq h13.2.2.2.2
        obtain ⟨z, hz, hzr⟩ := run_zero (tdR_spec h11) w
        have hzl : VRs ρ μ te.zero z.cells.toList := hzr _ _
        have hrep : VRs ρ μ (repA te.zero c') ((Array.range (c' * te.size)).map (fun i => (if c' * te.size = 0 then #[] else z.cells)[i % (if c' * te.size = 0 then #[] else z.cells).size]!)).toList := by
          by_cases h0 : c' * te.size = 0
          · have : c' = 0 := by rcases Nat.mul_eq_zero.1 h0 with h | h <;> omega
            subst this
            simp [repA, VRs_nil]
          · rw [if_neg h0]
            exact repA_VRs hzl (by rw [e5])
        refine ⟨_, e, .slice (some ⟨w.heap.size, 0, none⟩) l' c', ?_, rfl, fun μ' hle id hid => ⟨blkOf_BR (VRs_mono hle hrep) rfl rfl, ?_⟩⟩
        · obtain ⟨i, d, zz, g1, g2, g3, g4, g5, g6, g7⟩ := tinfo_spec (tdR_spec h11)
          have w1 : IntKind.i64.wrap (c' : Int) = c' := wrap_i64_nat e3
          have w2 : IntKind.i64.wrap (l' : Int) = l' := wrap_i64_nat (Nat.le_trans e1 e3)
          rw [g6] at e2
          have b1 : ¬ ((i.bytes : Int) * (c' : Int) > 2 ^ 48) := by
            rw [← Int.natCast_mul, Nat.mul_comm]; simp; omega
          have b2 : ¬ ((l' : Int) > (c' : Int)) := by omega
          have b3 : ¬ ((c' : Int) < 0) := by omega
          have b4 : ¬ ((l' : Int) < 0) := by omega
          have ti' : (typeInfo e).run P w = .ok i w := by simp [typeInfo, g1]
          have c1 : ¬ ((281474976710656 : Int) < (i.bytes : Int) * (c' : Int)) := by simpa using b1
          have c2 : ¬ ((c' : Int) < (l' : Int)) := b2
          simp only [execOp, ho, hl, hc, SE.den, Int.ofNat_eq_natCast, Instr.makeSlice, Sem.run_bind, run_und (td_slc (tdR_spec h9) hd), Result.andThen_ok, asInt, asIntOf, Sem.run_pure, ti', w1, w2]
          by_cases hz0 : c' * te.size = 0 <;> simp [c1, c2, b3, b4, run_size (tdR_spec h11), hz, newRow, hz0]
        · rw [VR]
          exact ⟨_, c', hid, rfl, fun _ => rfl, Nat.le_refl _, e1, by simp⟩
      · cases h14
    · cases h10
  | call c =>
    rw [ho] at h
    have h0 : clsCall P pc ea c = .alloc (.ok (b, mk)) := h
    unfold clsCall at h0
    split at h0
    · unfold clsB at h0; split at h0 <;> cases h0
    · cases h0
  | convert s d x =>
    rw [ho] at h
    have h0 : clsConv P pc ea s d x = .alloc (.ok (b, mk)) := h
    unfold clsConv at h0
    rcases cond_eq h0 with ⟨_, h1⟩ | ⟨_, h1⟩ <;> cases h1
  | next it str => rw [ho] at h; cases str <;> cases h
  | _ => rw [ho] at h; cases h

end
end Go.Ev
