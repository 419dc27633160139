/- The evaluator's operations that leave the heap alone are the model's; no theorem of the program yet; no conditions. -/
import Derived.Test.YtlngklpiapbpmaaEvG
import Derived.Laws.Concat
set_option linter.unusedSimpArgs false
set_option linter.unusedVariables false
namespace Go.Ev
section
variable {ρ : Env} {μ : Mu} {P : Program} {pc : PC} {w : World}

/-! ### Binary operations -/
def noNumV : Value → Bool
  | .int .. | .float .. | .complex .. | .string .. => false
  | _ => true

theorem binOp_eql {t : Nat} {u v : Value} (hu : noNumV u = true) : binOp .eql t u v = (do pure (.bool (← Op.equal t u v))) := by
  cases u <;> simp only [noNumV] at hu <;> first | (cases hu; done) | (cases v <;> rfl)
theorem binOp_neq {t : Nat} {u v : Value} (hu : noNumV u = true) : binOp .neq t u v = (do pure (.bool (!(← Op.equal t u v)))) := by
  cases u <;> simp only [noNumV] at hu <;> first | (cases hu; done) | (cases v <;> rfl)

theorem noNum_V {a : AV} {v : Value} (h : VR ρ μ a v) (hn : a.noNum = true) : noNumV v = true := by
  cases a <;> simp only [AV.noNum] at hn <;> first | (cases hn; done) | skip
  all_goals
    rw [VR] at h
    first
      | (subst h; rfl)
      | (obtain ⟨_, rfl, _⟩ := h; rfl)
      | (obtain ⟨_, _, rfl⟩ := h; rfl)
      | (obtain ⟨_, _, _, rfl, _⟩ := h; rfl)
      | (obtain ⟨_, _, _, rfl, _, _⟩ := h; rfl)

theorem binEq_spec {op : BinOp} {t : Nat} {a b r : AV} {u v : Value} (hp : pc.holds ρ) (hu : VR ρ μ a u) (hv : VR ρ μ b v) (hn : noNumV u = true) (h : binEq P pc op t a b = .ok r) :
    ∃ z, (binOp op t u v).run P w = .ok z w ∧ VR ρ μ r z := by
  have key : ∀ s, eqv P pc 20 t a b = .ok s → (Op.equal t u v).run P w = .ok (s.den ρ) w := fun s hs => eqv_spec hp 20 10000 (by omega) t a b s hs u v hu hv w
  unfold binEq at h
  split at h
  · obtain ⟨s, h1, h2⟩ := Res.bind_eq_ok h
    cases h2
    exact ⟨.bool (s.den ρ), by rw [binOp_eql hn]; simp [key s h1], by rw [VR]⟩
  · obtain ⟨s, h1, h2⟩ := Res.bind_eq_ok h
    cases h2
    exact ⟨.bool (!s.den ρ), by rw [binOp_neq hn]; simp [key s h1], by rw [VR, notB_den]⟩
  · cases h

theorem binStr_spec {op : BinOp} {t n m : Nat} {a b : List SE} {s u : ByteArray} {r : AV} (hp : pc.holds ρ) (hs : SR ρ n a s) (hu : SR ρ m b u) (h : binStr pc op n m a b = .ok r) :
    ∃ z, (binOp op t (.string s) (.string u)).run P w = .ok z w ∧ VR ρ μ r z := by
  have e0 : ∀ op, binOp op t (.string s) (.string u) = Op.stringOp op s u := fun op => by cases op <;> rfl
  rw [e0]
  have eq : ∀ q, strEq pc a b = .ok q → q.den ρ = (s.toList == u.toList) := fun q hq => by rw [strEq_spec hp hq, SR_toList hs, SR_toList hu]
  unfold binStr at h
  split at h
  · rcases cond_eq h with ⟨h1, h2⟩ | ⟨_, h2⟩
    · clear h
      cases h2
      have hle : n + m ≤ 4611686018427387904 := Nat.le_of_ble_eq_true h1
      refine ⟨.string (s ++ u), run_string_add_sum w s u (by rw [SR_size hs, SR_size hu]; omega), ?_⟩
      rw [VR]
      refine ⟨_, rfl, by simp [hs.1, hu.1], ?_⟩
      have : (s ++ u).data = s.data ++ u.data := by
        rw [← ByteArray.append_eq]; exact ByteArray.data_append ..
      rw [this, Array.toList_append, hs.2, hu.2, List.map_append]
    · cases h2
  · rcases cond_eq h with ⟨h1, h2⟩ | ⟨h1, h2⟩
    · clear h
      obtain ⟨q, h3, h4⟩ := Res.bind_eq_ok h2
      cases h4
      exact ⟨_, rfl, by rw [VR, eq q h3]⟩
    · clear h
      cases h2
      exact ⟨_, rfl, by rw [VR, SR_ne hs hu (fun e => by rw [e] at h1; simp at h1)]; rfl⟩
  · rcases cond_eq h with ⟨h1, h2⟩ | ⟨h1, h2⟩
    · clear h
      obtain ⟨q, h3, h4⟩ := Res.bind_eq_ok h2
      cases h4
      exact ⟨_, rfl, by rw [VR, notB_den, eq q h3]⟩
    · clear h
      cases h2
      exact ⟨_, rfl, by rw [VR, SR_ne hs hu (fun e => by rw [e] at h1; simp at h1)]; rfl⟩
  · cases h

theorem guard_other {op : BinOp} {t : Nat} {x y : Operand} {u v : Value} (h : ¬ (∃ a b, u = .agg a ∧ v = .agg b)) (h' : ¬ (u = .nilIface ∧ v = .nilIface)) :
    (eqGuard op t x y u v).run P w = .ok () w := by
  cases u <;> cases v <;> first
    | exact absurd ⟨_, _, rfl, rfl⟩ h
    | exact absurd ⟨rfl, rfl⟩ h'
    | (cases op <;> rfl)

theorem binA_spec {op : BinOp} {t : Nat} {x y : Operand} {a b r : AV} {u v : Value} (hp : pc.holds ρ) (hu : VR ρ μ a u) (hv : VR ρ μ b v) (h : binA P pc op t (isConstA x || isConstA y) a b = .ok r) :
    ∃ z, (do eqGuard op t x y u v; binOp op t u v : Sem Value).run P w = .ok z w ∧ VR ρ μ r z := by
  have fin : (eqGuard op t x y u v).run P w = .ok () w → (∃ z, (binOp op t u v).run P w = .ok z w ∧ VR ρ μ r z) → ∃ z, (do eqGuard op t x y u v; binOp op t u v : Sem Value).run P w = .ok z w ∧ VR ρ μ r z :=
    fun e ⟨z, h1, h2⟩ => ⟨z, by simp [e, h1], h2⟩
  unfold binA at h
  split at h
  · split at h
    · rw [VR] at hu; rw [VR] at hv
      subst hu; subst hv
      refine fin (guard_other (by simp) (by simp)) ?_
      have := binInt_spec (μ := μ) (P := P) (w := w) hp h t
      simpa [nrm_spec hp] using this
    · cases h
  · split at h
    · rw [VR] at hu; rw [VR] at hv
      obtain ⟨s, rfl, hs⟩ := hu
      obtain ⟨s', rfl, hs'⟩ := hv
      exact fin (guard_other (by simp) (by simp)) (binStr_spec hp hs hs' h)
    · cases h
  · unfold binOther at h
    rcases cond_eq h with ⟨h1, h2⟩ | ⟨_, h2⟩
    · clear h
      simp only [Bool.and_eq_true] at h1
      have hnu := noNum_V hu h1.1
      rcases cond_eq h2 with ⟨_, h3⟩ | ⟨h3, h4⟩
      · cases h3
      · clear h2
        rcases cond_eq h4 with ⟨_, h5⟩ | ⟨h5, h6⟩
        · cases h5
        · clear h4
          refine fin ?_ (binEq_spec hp hu hv hnu h6)
          by_cases hagg : ∃ p q, u = .agg p ∧ v = .agg q
          · obtain ⟨p, q, rfl, rfl⟩ := hagg
            have ha : a.isAgg = true := by
              cases a <;> rw [VR] at hu <;> first | rfl | (exfalso; first | (cases hu; done) | (obtain ⟨_, hu, _⟩ := hu; cases hu; done) | (obtain ⟨_, _, hu⟩ := hu; cases hu; done) | (obtain ⟨_, _, _, hu, _⟩ := hu; cases hu; done))
            have hb : b.isAgg = true := by
              cases b <;> rw [VR] at hv <;> first | rfl | (exfalso; first | (cases hv; done) | (obtain ⟨_, hv, _⟩ := hv; cases hv; done) | (obtain ⟨_, _, hv⟩ := hv; cases hv; done) | (obtain ⟨_, _, _, hv, _⟩ := hv; cases hv; done))
            rw [ha, hb] at h3
            exact run_eqGuard_agg w op t x y p q (by simpa using h3)
          · by_cases hnil : u = .nilIface ∧ v = .nilIface
            · obtain ⟨rfl, rfl⟩ := hnil
              have ha : a.isNili = true := by
                cases a <;> rw [VR] at hu <;> first | rfl | (exfalso; first | (cases hu; done) | (obtain ⟨_, hu, _⟩ := hu; cases hu; done) | (obtain ⟨_, _, hu⟩ := hu; cases hu; done) | (obtain ⟨_, _, _, hu, _⟩ := hu; cases hu; done))
              have hb : b.isNili = true := by
                cases b <;> rw [VR] at hv <;> first | rfl | (exfalso; first | (cases hv; done) | (obtain ⟨_, hv, _⟩ := hv; cases hv; done) | (obtain ⟨_, _, hv⟩ := hv; cases hv; done) | (obtain ⟨_, _, _, hv, _⟩ := hv; cases hv; done))
              rw [ha, hb] at h5
              have hc : (isConstA x || isConstA y) = true := by
                cases hcc : (isConstA x || isConstA y)
                · rw [hcc] at h5; simp at h5
                · rfl
              cases x <;> cases y <;> simp only [isConstA, Bool.or_false, Bool.or_true] at hc <;> first | (cases hc; done) | (cases op <;> rfl)
            · exact guard_other hagg hnil
    · cases h2

/-! ### Fields and elements -/
theorem nth_eq {α : Type} : ∀ (l : List α) (n : Nat), nth l n = l[n]? := by
  intro l
  induction l with
  | nil => intro n; simp [nth]
  | cons x l ih => intro n; cases n <;> simp [nth, ih]

theorem fieldR_spec {s f o : Nat} {tf : TI} (h : fieldR P s f = .ok (tf, o)) : ∃ (fields : Array Field) (fd : Field), P.underlying s = some (.struct fields) ∧ fields[f]? = some fd ∧ tinfo P fd.type = some tf ∧ fd.offset = o := by
  unfold fieldR at h
  obtain ⟨ti, h1, h⟩ := Res.bind_eq_ok h
  split at h
  · rename_i fs hd
    obtain ⟨fields, hf, rfl⟩ := td_struct (tdR_spec h1) hd
    split at h
    · rename_i t o' b hn
      obtain ⟨tf', h2, h⟩ := Res.bind_eq_ok h
      cases h
      rw [nth_eq, List.getElem?_map] at hn
      cases hfd : fields.toList[f]? with
      | none => rw [hfd] at hn; cases hn
      | some fd =>
        rw [hfd] at hn
        cases hn
        exact ⟨fields, fd, hf, by simpa using hfd, tdR_spec h2, rfl⟩
    · cases h
  · cases h

theorem addr_add (b o n : Nat) : (⟨b, o, none⟩ : Addr).add n = ⟨b, o + n, none⟩ := by unfold Addr.add; split <;> simp_all

theorem aFieldAddr_spec {s f : Nat} {a r : AV} {v : Value} (hv : VR ρ μ a v) (h : aFieldAddr P s f a = .ok r) : ∃ y, (Instr.fieldAt s v f).run P w = .ok y w ∧ VR ρ μ r y := by
  unfold aFieldAddr at h
  split at h
  · rename_i id off
    obtain ⟨⟨tf, o⟩, h1, h2⟩ := Res.bind_eq_ok h
    obtain ⟨fields, fd, h3, h4, h5, rfl⟩ := fieldR_spec h1
    rcases cond_eq h2 with ⟨h6, h7⟩ | ⟨_, h7⟩
    · cases h7
      rw [VR] at hv
      obtain ⟨p, hp, rfl⟩ := hv
      have hs : tf.size ≠ 0 := by have := Nat.le_of_ble_eq_true h6; omega
      refine ⟨.pointer (some ⟨p.1, p.2.1 + off + fd.offset, none⟩), ?_, ?_⟩
      · simp [Instr.fieldAt, run_und h3, h4, Instr.sureAddr, fieldPlace, run_size h5, hs, addr_add]
      · rw [VR]; exact ⟨p, hp, by rw [Nat.add_assoc]⟩
    · cases h7
  · cases h

theorem aField_spec {s f : Nat} {a r : AV} {v : Value} (hv : VR ρ μ a v) (h : aField P s f a = .ok r) : ∃ y, (Instr.field s v f).run P w = .ok y w ∧ VR ρ μ r y := by
  unfold aField at h
  split at h
  · obtain ⟨⟨tf, o⟩, h1, h2⟩ := Res.bind_eq_ok h
    obtain ⟨fields, fd, h3, h4, h5, rfl⟩ := fieldR_spec h1
    rw [VR] at hv
    obtain ⟨ys, rfl, hv⟩ := hv
    obtain ⟨y, hy, hr⟩ := partA_spec (w := w) h5 hv (Res.ofO_eq_ok h2)
    exact ⟨y, by simp [Instr.field, run_und h3, h4, asAgg, hy], hr⟩
  · cases h

theorem aIndexAddr_spec {t : Nat} {e : SE} {k : IntKind} {a r : AV} {v : Value} (hp : pc.holds ρ) (hv : VR ρ μ a v) (h : aIndexAddr P pc t e a = .ok r) :
    ∃ y, (Instr.indexAt t v (.int k (e.den ρ))).run P w = .ok y w ∧ VR ρ μ r y := by
  unfold aIndexAddr at h
  obtain ⟨ti, h1, h0⟩ := Res.bind_eq_ok h
  clear h
  split at h0
  · rename_i n el id off hd
    obtain ⟨te, h2, h⟩ := Res.bind_eq_ok h0
    obtain ⟨j, h3, h⟩ := Res.bind_eq_ok h
    cases h
    rw [VR] at hv
    obtain ⟨p, hp', rfl⟩ := hv
    obtain ⟨hj, hjn⟩ := below_spec hp h3
    refine ⟨.pointer (some ⟨p.1, p.2.1 + off + j * te.size, none⟩), ?_, by rw [VR]; exact ⟨p, hp', by rw [Nat.add_assoc]⟩⟩
    rw [hj]
    simp [Instr.indexAt, asIntOf, run_und (td_arr (tdR_spec h1) hd), Instr.sureAddr, hjn, run_size (tdR_spec h2), addr_add]
  · rename_i el id off len ex cap es hd
    obtain ⟨te, h2, h⟩ := Res.bind_eq_ok h0
    rcases cond_eq h with ⟨h6, h7⟩ | ⟨_, h7⟩
    · clear h
      have hes := beq_eq h6
      obtain ⟨j, h3, h⟩ := Res.bind_eq_ok h7
      cases h
      rw [VR] at hv
      obtain ⟨p, c, hp', rfl, _⟩ := hv
      obtain ⟨hj, hjn⟩ := below_spec hp h3
      refine ⟨.pointer (some ⟨p.1, p.2.1 + off + j * te.size, none⟩), ?_, by rw [VR]; exact ⟨p, hp', by rw [Nat.add_assoc, hes]⟩⟩
      rw [hj]
      simp [Instr.indexAt, asIntOf, run_und (td_slc (tdR_spec h1) hd), hjn, run_size (tdR_spec h2), addr_add]
    · cases h7
  · rename_i el id off n l es hd
    obtain ⟨te, h2, h⟩ := Res.bind_eq_ok h0
    rcases cond_eq h with ⟨h6, h7⟩ | ⟨_, h7⟩
    · clear h
      have hes := beq_eq h6
      obtain ⟨j, h3, h⟩ := Res.bind_eq_ok h7
      cases h
      rw [VR] at hv
      obtain ⟨p, c, m, rfl, hp', _, hnm, _⟩ := hv
      obtain ⟨hj, hjn⟩ := below_spec hp h3
      have hjm : j < m := Nat.lt_of_lt_of_le hjn hnm
      refine ⟨.pointer (some ⟨p.1, p.2.1 + off + j * te.size, none⟩), ?_, by rw [VR]; exact ⟨p, hp', by rw [Nat.add_assoc, hes]⟩⟩
      rw [hj]
      simp [Instr.indexAt, asIntOf, run_und (td_slc (tdR_spec h1) hd), hjm, run_size (tdR_spec h2), addr_add]
    · cases h7
  · cases h0

theorem aIndex_spec {t : Nat} {e : SE} {k : IntKind} {a r : AV} {v : Value} (hp : pc.holds ρ) (hv : VR ρ μ a v) (h : aIndex P pc t e a = .ok r) :
    ∃ y, (Instr.index t v (.int k (e.den ρ))).run P w = .ok y w ∧ VR ρ μ r y := by
  unfold aIndex at h
  obtain ⟨ti, h1, h0⟩ := Res.bind_eq_ok h
  clear h
  split at h0
  · rename_i n el cs hd
    obtain ⟨te, h2, h⟩ := Res.bind_eq_ok h0
    obtain ⟨j, h3, h⟩ := Res.bind_eq_ok h
    rw [VR] at hv
    obtain ⟨ys, rfl, hv⟩ := hv
    obtain ⟨hj, hjn⟩ := below_spec hp h3
    obtain ⟨y, hy, hr⟩ := partA_spec (w := w) (tdR_spec h2) hv (Res.ofO_eq_ok h)
    rw [hj]
    exact ⟨y, by simp [Instr.index, asIntOf, run_und (td_arr (tdR_spec h1) hd), hjn, run_size (tdR_spec h2), hy], hr⟩
  · rename_i n bs hd
    obtain ⟨j, h3, h⟩ := Res.bind_eq_ok h0
    obtain ⟨hj, hjn⟩ := below_spec hp h3
    split at h
    · rename_i b hb
      rcases cond_eq h with ⟨h6, h7⟩ | ⟨_, h7⟩
      · cases h7
        rw [VR] at hv
        obtain ⟨s, rfl, hs⟩ := hv
        rw [hj]
        have hbd := inByte_spec hp h6
        rw [nth_eq] at hb
        have h5 : s.data.toList[j]? = some (byteOf ρ b) := by rw [hs.2, List.getElem?_map, hb]; rfl
        have h6 : s[j]? = some (byteOf ρ b) := by
          have hlt : j < s.size := by rw [SR_size hs]; exact hjn
          have e1 : s[j]? = some s[j] := getElem?_pos s j hlt
          rw [e1]
          have : s[j] = s.data[j]'hlt := rfl
          rw [this]
          have e2 : s.data.toList[j]? = some (s.data[j]'hlt) := by
            rw [Array.getElem?_toList]; exact Array.getElem?_eq_getElem hlt
          rw [← e2, h5]
        refine ⟨.int .u8 (b.den ρ), ?_, by rw [VR]⟩
        have e3 : ((byteOf ρ b).toNat : Int) = b.den ρ := by
          simp only [byteOf, UInt8.toNat_ofNat']; omega
        simp [Instr.index, asIntOf, run_und (td_str (tdR_spec h1) hd), h6, e3]
      · cases h7
    · cases h
  · cases h0

end
end Go.Ev
