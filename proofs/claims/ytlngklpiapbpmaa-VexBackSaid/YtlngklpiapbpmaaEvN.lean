/- The evaluator's other operations on the heap are the model's; no theorem of the program yet; no conditions. -/
import Derived.Test.YtlngklpiapbpmaaEvM
import Derived.Laws.Append
import Derived.RangeFuncRecord
import Derived.Lib.ConvBytes
import Derived.Laws.AppendOwn
import Derived.MapKept
set_option linter.unusedSimpArgs false
set_option linter.unusedVariables false
namespace Go.Ev
section
variable {ρ : Env} {μ : Mu} {P : Program} {pc : PC} {w : World}

theorem VRs_one {as : List AV} {vs : List Value} (h : VRs ρ μ as vs) (h1 : as.all AV.one = true) : ∀ v ∈ vs, v.oneCell' = true := by
  induction as generalizing vs with
  | nil => rw [VRs_nil] at h; subst h; intro v hv; cases hv
  | cons a as ih =>
    rw [VRs_cons] at h
    obtain ⟨y, r, rfl, h2, h3⟩ := h
    simp only [List.all_cons, Bool.and_eq_true] at h1
    intro v hv
    rcases List.mem_cons.1 hv with rfl | hv
    · exact VR_one h2 h1.1
    · exact ih h3 h1.2 v hv

/-- Cells with others laid over them. -/
theorem laid_get {c : Array Value} {off : Nat} {xs : List Value} (h : off + xs.length ≤ c.size) (j : Nat) :
    (c.toList.take off ++ xs ++ c.toList.drop (off + xs.length)).toArray[j]? = if off ≤ j ∧ j < off + xs.length then xs[j - off]? else c[j]? := by
  have hl : c.toList.length = c.size := Array.length_toList
  rw [List.getElem?_toArray]
  by_cases h1 : j < off
  · rw [List.append_assoc, List.getElem?_append_left (by simp; omega), List.getElem?_take, if_pos h1, if_neg (by omega), Array.getElem?_toList]
  · by_cases h2 : j < off + xs.length
    · rw [List.getElem?_append_left (by simp; omega), List.getElem?_append_right (by simp; omega), if_pos (by omega)]
      congr 1; simp; omega
    · rw [List.getElem?_append_right (by simp; omega), if_neg (by omega), List.getElem?_drop, Array.getElem?_toList]
      congr 1; simp; omega

theorem laid_size {c : Array Value} {off : Nat} {xs : List Value} (h : off + xs.length ≤ c.size) : (c.toList.take off ++ xs ++ c.toList.drop (off + xs.length)).toArray.size = c.size := by
  have hl : c.toList.length = c.size := Array.length_toList
  simp; omega

theorem wr_spec {h h' : H} {id off : Nat} {vs : List AV} {xs : List Value} (R : Rel ρ μ h.get h.next w) (hv : VRs ρ μ vs xs) (hr : wr h id off vs = .ok h') :
    ∃ p c e w', μ id = some p ∧ p.2.1 = 0 ∧ w.heap[p.1]? = some (.cells c e (0, 0)) ∧ off + xs.length ≤ c.size ∧ (∀ v ∈ xs, v.oneCell' = true) ∧
      w' = w.setRow p.1 (c.toList.take off ++ xs ++ c.toList.drop (off + xs.length)).toArray ∧
      (storeCells ⟨p.1, off, none⟩ xs).run P w = .ok () w' ∧ h'.next = h.next ∧ Rel ρ μ h'.get h.next w' ∧ Stp μ h.get h.next w μ h'.get w' := by
  unfold wr at hr
  split at hr
  · rename_i opn e m vals hb
    rcases cond_eq hr with ⟨h1, h2⟩ | ⟨_, h2⟩
    · cases h2
      clear hr
      simp only [Bool.and_eq_true] at h1
      have e1 : off + vs.length ≤ m := by simpa using h1.1
      have hone := VRs_one hv h1.2
      have hl := VRs_length hv
      obtain ⟨p, o, hp, ho, c, e', fr, rfl, h6, h7, h8, h9⟩ := R.blk _ _ hb
      obtain ⟨h10, rfl, rfl, h11⟩ := h8 rfl
      rw [h10, Nat.zero_add] at h7
      have hfit : off + xs.length ≤ c.size := by omega
      have hst := run_storeCells_at (P := P) p.1 off e' xs 0 c w ho (by omega) hone
      simp only [Nat.add_zero] at hst
      have hw : (w.setRow p.1 (c.toList.take off ++ xs ++ c.toList.drop (off + xs.length)).toArray).heap[p.1]? = some (.cells (c.toList.take off ++ xs ++ c.toList.drop (off + xs.length)).toArray e' (0, 0)) :=
        setRow_heap _ _ c _ _ _ ho
      have hB : BR ρ μ p (.cells true opn e' m (vals.puts off vs)) (.cells (c.toList.take off ++ xs ++ c.toList.drop (off + xs.length)).toArray e' (0, 0)) := by
        refine ⟨_, e', (0, 0), rfl, by rw [laid_size hfit]; exact h6, by rw [laid_size hfit, h10]; omega, fun _ => ⟨h10, rfl, rfl, fun hh => by rw [laid_size hfit]; exact h11 hh⟩, ?_⟩
        intro j v hj hjv
        rw [h10, Nat.zero_add, laid_get hfit]
        rw [T.get_puts] at hjv
        by_cases hin : off ≤ j ∧ j < off + vs.length
        · rw [if_pos hin] at hjv
          rw [if_pos (by omega)]
          exact VRs_get hv _ _ hjv
        · rw [if_neg hin] at hjv
          rw [if_neg (by omega)]
          have := h9 j v hj hjv
          rwa [h10, Nat.zero_add] at this
      obtain ⟨R', S⟩ := R.replace (b' := .cells true opn e' m (vals.puts off vs)) hb rfl rfl hp (setRow_size w p.1 _) (fun k hk => setRow_other w p.1 k _ hk) hw hB rfl rfl rfl (setRow_fz _ _ _)
      refine ⟨p, c, e', _, hp, h10, ho, hfit, hone, rfl, hst, rfl, ?_, ?_⟩
      · rw [H.get_set]; exact R'
      · rw [H.get_set]; exact S
    · cases h2
  · cases hr

theorem aStore_spec {h h' : H} {t : Nat} {a b : AV} {u v : Value} {r : Option AV} (R : Rel ρ μ h.get h.next w) (hu : VR ρ μ a u) (hv : VR ρ μ b v) (hr : aStore P h t b a = .ok (r, h')) :
    ∃ w', (Instr.storeAt t u v).run P w = .ok () w' ∧ Rel ρ μ h'.get h'.next w' ∧ Stp μ h.get h.next w μ h'.get w' ∧ r = none := by
  unfold aStore at hr
  split at hr
  · rename_i id off
    obtain ⟨ti, h1, h0⟩ := Res.bind_eq_ok hr
    rcases cond_eq h0 with ⟨h2, h3⟩ | ⟨_, h3⟩
    · obtain ⟨h4, h5, h6⟩ := Res.bind_eq_ok h3
      cases h6
      rw [VR] at hu
      obtain ⟨p, hp, rfl⟩ := hu
      have hc := VR_cells hv
      obtain ⟨p', c, e, w', hp', h10, ho, hfit, hone, hw, hst, hn, R', S⟩ := wr_spec (P := P) R hc h5
      rw [hp] at hp'
      cases hp'
      have hs : v.cells.size = ti.size := by rw [← beq_eq h2, VRs_size hc]
      refine ⟨w', ?_, by rw [hn]; exact R', S, rfl⟩
      simp [Instr.storeAt, Instr.sureAddr, storeVar, run_size (tdR_spec h1), hs, h10, hst]
    · cases h3
  · cases hr

/-! ### Texts and bytes -/
theorem push_fold : ∀ (ns : List Int) (s : ByteArray), (ns.foldl (fun r n => r.push (UInt8.ofNat n.toNat)) s).data.toList = s.data.toList ++ ns.map fun n => UInt8.ofNat n.toNat := by
  intro ns
  induction ns with
  | nil => intro s; simp
  | cons n ns ih => intro s; rw [List.foldl_cons, ih]; simp [ByteArray.push]

theorem bytesOfCells_spec : ∀ {cs : List AV} {l : List SE} {xs : List Value}, bytesOfCells cs = some l → VRs ρ μ cs xs → l.length = cs.length ∧ xs = (l.map fun e => Value.int .u8 (e.den ρ)) := by
  intro cs
  induction cs with
  | nil => intro l xs h hv; simp [bytesOfCells] at h; subst h; rw [VRs_nil] at hv; exact ⟨rfl, by simp [hv]⟩
  | cons c cs ih =>
    intro l xs h hv
    unfold bytesOfCells at h
    split at h
    · cases ‹_ :: _ = []›
    · rename_i e r he
      cases he
      split at h
      · rename_i l' hl
        cases h
        rw [VRs_cons] at hv
        obtain ⟨y, ys, rfl, h1, h2⟩ := hv
        obtain ⟨h3, h4⟩ := ih hl h2
        rw [VR] at h1
        exact ⟨by simp [h3], by simp [h1, h4]⟩
      · cases h
    · cases h

theorem aToStr_spec {h h' : H} {a : AV} {v : Value} {r : Option AV} (R : Rel ρ μ h.get h.next w) (hv : VR ρ μ a v) (hr : aToStr h a = .ok (r, h')) :
    h' = h ∧ ∃ y, (Conv.bytesToString v).run P w = .ok y w ∧ ∀ b, r = some b → VR ρ μ b y := by
  unfold aToStr at hr
  split at hr
  · cases hr
    rw [VR] at hv
    subst hv
    exact ⟨rfl, .string .empty, by simp [Conv.bytesToString], fun b hb => by cases hb; rw [VR]; exact ⟨_, rfl, rfl, rfl⟩⟩
  · cases hr
    rw [VR] at hv
    obtain ⟨ad, c, rfl⟩ := hv
    refine ⟨rfl, .string .empty, ?_, fun b hb => by cases hb; rw [VR]; exact ⟨_, rfl, rfl, rfl⟩⟩
    have := run_bytesToString (P := P) w ad 0 c [] (by simpa using run_loadCells_list (P := P) w ad [] (by simp))
    simpa using this
  · rename_i id off len ex cap es
    obtain ⟨cs, h1, h2⟩ := Res.bind_eq_ok hr
    split at h2
    · rename_i l hl
      cases h2
      rw [VR] at hv
      obtain ⟨p, c, hp, rfl, _⟩ := hv
      obtain ⟨p', xs, cc, e, fr, hp', ho, _, hfit, hx, hlen, hc⟩ := rd_spec R (fun b h => h) h1
      rw [hp] at hp'
      cases hp'
      obtain ⟨h3, h4⟩ := bytesOfCells_spec hl hx
      have hld := run_loadCells_list (P := P) w ⟨p.1, p.2.1 + off, none⟩ xs (fun j x hx => by rw [addr_add, cell_at ho]; exact hc j x hx)
      rw [hlen] at hld
      have hb := run_bytesToString (P := P) w ⟨p.1, p.2.1 + off, none⟩ len c (l.map fun e => e.den ρ) (by rw [hld, h4]; simp)
      refine ⟨rfl, _, hb, fun b hb => ?_⟩
      cases hb
      rw [VR]
      refine ⟨_, rfl, ?_, ?_⟩
      · have := VRs_length hx; omega
      · rw [push_fold]; simp
    · cases h2
  · cases hr

theorem u8_of {d : TD} (h : isU8 d = true) : d = .int .u8 := by
  unfold isU8 at h
  split at h
  · rfl
  · cases h

theorem bytesWorld_fz (w : World) (e : TypeId) (s : ByteArray) (a : Addr) (h : a.block < w.heap.size) : (Lib.bytesWorld w e s).frozen? a = w.frozen? a := by
  unfold World.frozen?
  rw [Lib.bytesWorld_at_old w e s a.block h]

theorem VRs_bytes {μ : Mu} : ∀ (l : List SE), VRs ρ μ (l.map fun b => .int .u8 b) (l.map fun b => .int .u8 (b.den ρ))
  | [] => VRs_nil.2 rfl
  | e :: l => VRs_cons.2 ⟨_, _, rfl, by rw [VR], VRs_bytes l⟩

theorem aToBytes_spec {h h' : H} {s d e : Nat} {a : AV} {v : Value} {r : Option AV} {u : TypeDesc} (hp : pc.holds ρ) (R : Rel ρ μ h.get h.next w) (hv : VR ρ μ a v) (hr : aToBytes pc h e a = .ok (r, h'))
    (hs : P.underlying s = some u) (hd : P.underlying d = some (.slice e)) (he : P.underlying e = some (.int .u8)) :
    ∃ y w' μ', (convert s d v).run P w = .ok y w' ∧ Rel ρ μ' h'.get h'.next w' ∧ Stp μ h.get h.next w μ' h'.get w' ∧ ∀ b, r = some b → VR ρ μ' b y := by
  unfold aToBytes at hr
  split at hr
  · rename_i n bs
    rcases cond_eq hr with ⟨h1, h2⟩ | ⟨_, h2⟩
    · cases h2
      rw [VR] at hv
      obtain ⟨t, rfl, ht⟩ := hv
      have hn := SR_size ht
      have hby : ∀ e ∈ bs, 0 ≤ e.den ρ ∧ e.den ρ ≤ 255 := fun e he => inByte_spec hp (List.all_eq_true.1 h1 e he)
      have hid : μ h.next = none := by
        cases hm : μ h.next with
        | none => rfl
        | some p => have := R.fresh _ _ hm; omega
      have hsz : (Lib.bytesCells w e t).size = grownCap w t.size 0 e := by
        have := grownCap_ge w t.size 0 e
        have h0 : t.data.size = t.size := rfl
        simp [Lib.bytesCells, h0]
        omega
      have hge := grownCap_ge w t.size 0 e
      have hcell : ∀ j v, j < n → (T.puts .nil 0 (bs.map fun b => AV.int .u8 b)).get j = some v → ∃ x, (Lib.bytesCells w e t)[j]? = some x ∧ ∀ μ, VR ρ μ v x := by
        intro j v hj hg
        rw [T.get_puts] at hg
        split at hg
        · rw [Nat.sub_zero, List.getElem?_map] at hg
          cases hb : bs[j]? with
          | none => rw [hb] at hg; cases hg
          | some b =>
            rw [hb] at hg
            cases hg
            have hbd := hby b (List.mem_of_getElem? hb)
            have h5 : t.data.toList[j]? = some (UInt8.ofNat (b.den ρ).toNat) := by rw [ht.2, List.getElem?_map, hb]; rfl
            have hjs : j < t.data.size := by have : t.data.size = t.size := rfl
                                             omega
            refine ⟨.int .u8 (b.den ρ), ?_, fun μ => by rw [VR]⟩
            unfold Lib.bytesCells
            rw [Array.getElem?_append_left (by simpa using hjs), Array.getElem?_map]
            rw [Array.getElem?_toList] at h5
            rw [h5]
            simp
            omega
        · rw [T.get_nil] at hg; cases hg
      obtain ⟨R', S⟩ := R.alloc (w' := Lib.bytesWorld w e t) (z := (Lib.bytesCells w e t).size) (b := .cells false true e n (T.puts .nil 0 (bs.map fun b => .int .u8 b))) (o := .cells (Lib.bytesCells w e t) e ((Lib.bytesCells w e t).size, (Lib.bytesCells w e t).size + 1)) hid (Nat.le_refl _) (Nat.lt_succ_self _) (Nat.le_succ _) (Lib.bytesWorld_size w e t)
        (fun k hk => Lib.bytesWorld_at_old w e t k hk) (Lib.bytesWorld_at_new w e t)
        ⟨_, _, _, rfl, rfl, by simp only [Nat.zero_add]; omega, (fun h => by cases h), fun j v hj hg => by
          obtain ⟨x, q1, q2⟩ := hcell j v hj hg
          exact ⟨x, by simpa using q1, q2 _⟩⟩ rfl rfl rfl (fun a ha => bytesWorld_fz w e t a ha)
      refine ⟨_, _, _, Lib.run_convert_string_bytes w s d e t hs hd he, by rw [H.get_new, H.next_new]; exact R', by rw [H.get_new]; exact S, fun b hb => ?_⟩
      cases hb
      rw [VR]
      exact ⟨(w.heap.size, 0, (Lib.bytesCells w e t).size), grownCap w t.size 0 e, by simp [upd], by rw [hn], (fun h => by cases h), by omega, Nat.le_refl _, by simp only; omega⟩
    · cases h2
  · cases hr

theorem aConv_spec {h h' : H} {s d : Nat} {a : AV} {v : Value} {r : Option AV} (hp : pc.holds ρ) (R : Rel ρ μ h.get h.next w) (hv : VR ρ μ a v) (hr : aConv P pc h s d a = .ok (r, h')) :
    ∃ y w' μ', (convert s d v).run P w = .ok y w' ∧ Rel ρ μ' h'.get h'.next w' ∧ Stp μ h.get h.next w μ' h'.get w' ∧ ∀ b, r = some b → VR ρ μ' b y := by
  unfold aConv at hr
  obtain ⟨ts, h1, h2⟩ := Res.bind_eq_ok hr
  obtain ⟨td, h3, h4⟩ := Res.bind_eq_ok h2
  split at h4
  · rename_i e hs hd
    obtain ⟨te, h5, h6⟩ := Res.bind_eq_ok h4
    rcases cond_eq h6 with ⟨h7, h8⟩ | ⟨_, h8⟩
    · obtain ⟨q, y, h9, h10⟩ := aToStr_spec (P := P) R hv h8
      subst q
      refine ⟨y, w, μ, ?_, R, Stp.refl _ _ _ _, h10⟩
      have hu := run_und (td_int (tdR_spec h5) (u8_of h7)) w
      have shape : ∃ a b c, v = .slice a b c := by
        unfold aToStr at h8
        split at h8
        · rw [VR] at hv; exact ⟨_, _, _, hv⟩
        · rw [VR] at hv; obtain ⟨_, _, hv⟩ := hv; exact ⟨_, _, _, hv⟩
        · rw [VR] at hv; obtain ⟨_, _, _, hv, _⟩ := hv; exact ⟨_, _, _, hv⟩
        · cases h8
      obtain ⟨x, b, c, rfl⟩ := shape
      simp [convert, run_und (td_slc (tdR_spec h1) hs), run_und (td_str (tdR_spec h3) hd), hu, h9]
    · cases h8
  · rename_i e hs hd
    obtain ⟨te, h5, h6⟩ := Res.bind_eq_ok h4
    rcases cond_eq h6 with ⟨h7, h8⟩ | ⟨_, h8⟩
    · exact aToBytes_spec hp R hv h8 (td_str (tdR_spec h1) hs) (td_slc (tdR_spec h3) hd) (td_int (tdR_spec h5) (u8_of h7))
    · cases h8
  · cases h4

/-! ### Ranges over texts -/
theorem putObj_props {r : Nat} {o o' : Obj} (h : w.heap[r]? = some o) : (w.putObj r o').heap.size = w.heap.size ∧ (∀ k, k ≠ r → (w.putObj r o').heap[k]? = w.heap[k]?) ∧ (w.putObj r o').heap[r]? = some o' := by
  have hlt := (Array.getElem?_eq_some_iff.1 h).1
  refine ⟨by simp [World.putObj], fun k hk => ?_, ?_⟩
  · simp only [World.putObj]
    rw [Array.getElem?_setIfInBounds_ne (fun e => hk e.symm)]
  · simp only [World.putObj]
    rw [Array.getElem?_setIfInBounds_self_of_lt hlt]

/-! ### Maps whose keys are whole numbers -/
theorem keyA_spec {k : AV} {v : Value} {kd : IntKind} {n : Int} (hp : pc.holds ρ) (hv : VR ρ μ k v) (h : keyA pc k = .ok (kd, n)) : v = .int kd n := by
  unfold keyA at h
  split at h
  · rename_i k' e
    split at h
    · rename_i m hm
      cases h
      rw [VR] at hv
      rw [hv]
      have := nrm_spec hp e
      rw [hm] at this
      rw [← this]; rfl
    · cases h
  · cases h

theorem intBeq_iff {a b : Int} : intBeq a b = (a == b) := by
  cases h : intBeq a b with
  | true => rw [intBeq_eq] at h; rw [h]
  | false => rw [intBeq_eq] at h; rw [h]

theorem mFind_spec {kd kt : IntKind} {n : Int} : ∀ {es : List (AV × AV)} {l : List MapEntry} {i : Nat} {r : Option (Nat × AV)}, ER ρ μ es l → mFind kd n es i = .ok r →
    (r = none ∧ Instr.findNow (.int kt) (.int kd n) l i = some none) ∨ ∃ j a x, r = some (j, a) ∧ VR ρ μ a x ∧ Instr.findNow (.int kt) (.int kd n) l i = some (some (j, x))
  | [], l, i, r, he, h => by
    cases h
    have he : l = [] := he
    subst he
    exact .inl ⟨rfl, rfl⟩
  | (k, v) :: es, l, i, r, he, h => by
    obtain ⟨e, l', rfl, ⟨kd', m, rfl, hk⟩, hv, he'⟩ := he
    have h : (bif ikBeq kd kd' then (bif intBeq n m then Res.ok (some (i, v)) else mFind kd n es (i + 1)) else .fail "map: kinds") = .ok r := h
    rcases cond_eq h with ⟨h1, h2⟩ | ⟨_, h2⟩
    · have h1 := ikBeq_eq h1
      subst h1
      rcases cond_eq h2 with ⟨h3, h4⟩ | ⟨h3, h4⟩
      · cases h4
        rw [intBeq_iff] at h3
        exact .inr ⟨i, v, e.val, rfl, hv, by simp [Instr.findNow, Instr.sameNow, hk, h3]⟩
      · rw [intBeq_iff] at h3
        rcases mFind_spec he' h4 with ⟨q1, q2⟩ | ⟨j, a, x, q1, q2, q3⟩
        · exact .inl ⟨q1, by simp only [Instr.findNow, Instr.sameNow, hk, if_true, h3]; exact q2⟩
        · exact .inr ⟨j, a, x, q1, q2, by simp only [Instr.findNow, Instr.sameNow, hk, if_true, h3]; exact q3⟩
    · cases h2

theorem ER_push {es : List (AV × AV)} {l : List MapEntry} {kd : IntKind} {n : Int} {v : AV} {e : MapEntry} (h : ER ρ μ es l) (hk : e.key = .int kd n) (hv : VR ρ μ v e.val) : ER ρ μ (es ++ [(.int kd (.lit n), v)]) (l ++ [e]) := by
  induction es generalizing l with
  | nil =>
    have h : l = [] := h
    subst h
    exact ⟨e, [], rfl, ⟨kd, n, rfl, hk⟩, hv, rfl⟩
  | cons x r ih =>
    obtain ⟨k, u⟩ := x
    obtain ⟨e', l', rfl, h2, h3, h4⟩ := h
    exact ⟨e', l' ++ [e], rfl, h2, h3, ih h4⟩

theorem isIntD_td {d : TD} (h : isIntD d = true) : ∃ k, d = .int k := by
  cases d <;> simp [isIntD] at h
  exact ⟨_, rfl⟩

theorem zeroA_spec {t : Nat} {z : AV} (h : zeroA P t = .ok z) : ∃ x, (zeroValue t).run P w = .ok x w ∧ VR ρ μ z x := by
  unfold zeroA at h
  split at h
  · rename_i i hi
    split at h
    · rename_i x hx
      exact ⟨x, by simp [zeroValue, typeInfo, hi, hx], ofValue_spec (Res.ofO_eq_ok h)⟩
    · cases h
  · cases h

theorem pairA_spec {ok : Bool} {z : AV} {x : Value} {r : Option (Nat × AV)} (hz : VR ρ μ z x) : (r = none → VR ρ μ (pairA ok z r) (if ok then .tuple #[x, .bool false] else x)) ∧
    ∀ j a y, r = some (j, a) → VR ρ μ a y → VR ρ μ (pairA ok z r) (if ok then .tuple #[y, .bool true] else y) := by
  refine ⟨fun h => ?_, fun j a y h hy => ?_⟩
  · subst h
    cases ok
    · exact hz
    · simp only [pairA, cond_true, if_true]
      rw [VR]
      exact ⟨_, rfl, VRs_cons.2 ⟨_, _, rfl, hz, VRs_cons.2 ⟨_, _, rfl, by rw [VR]; rfl, VRs_nil.2 rfl⟩⟩⟩
  · subst h
    cases ok
    · exact hy
    · simp only [pairA, cond_true, if_true]
      rw [VR]
      exact ⟨_, rfl, VRs_cons.2 ⟨_, _, rfl, hy, VRs_cons.2 ⟨_, _, rfl, by rw [VR]; rfl, VRs_nil.2 rfl⟩⟩⟩

theorem run_checkInt {b : Bool} {n : Nat} {kt : TypeId} {kk kd : IntKind} {m : Int} (h : P.underlying kt = some (.int kk)) : (Instr.checkKey b (n + 1) kt (.int kd m)).run P w = .ok () w := by
  simp [Instr.checkKey, run_und h]

theorem aLookup_spec {h h' : H} {t : Nat} {ok : Bool} {m k : AV} {vm vk : Value} {r : Option AV} (hp : pc.holds ρ) (R : Rel ρ μ h.get h.next w) (hm : VR ρ μ m vm) (hk : VR ρ μ k vk) (hr : aLookup P pc h t ok m k = .ok (r, h')) :
    h' = h ∧ ∃ y, (Instr.lookup t vm vk ok).run P w = .ok y w ∧ ∀ b, r = some b → VR ρ μ b y := by
  unfold aLookup at hr
  obtain ⟨ti, h1, h2⟩ := Res.bind_eq_ok hr
  split at h2
  · rename_i kt e hd
    obtain ⟨tk, h3, h4⟩ := Res.bind_eq_ok h2
    rcases cond_eq h4 with ⟨h5, h6⟩ | ⟨_, h6⟩
    · obtain ⟨⟨kd, n⟩, h7, h8⟩ := Res.bind_eq_ok h6
      obtain ⟨es, h9, h10⟩ := Res.bind_eq_ok h8
      obtain ⟨z, h11, h12⟩ := Res.bind_eq_ok h10
      obtain ⟨f, h13, h14⟩ := Res.bind_eq_ok h12
      cases h14
      have hkey := keyA_spec hp hk h7
      subst hkey
      obtain ⟨x, hz, hzv⟩ := zeroA_spec (ρ := ρ) (μ := μ) (w := w) h11
      obtain ⟨kk, hkk⟩ := isIntD_td h5
      have hkt := td_int (tdR_spec h3) hkk
      have hmt := td_map (tdR_spec h1) hd
      refine ⟨rfl, ?_⟩
      have main : ∀ (arr : Array MapEntry), ER ρ μ es arr.toList → ((vm = .map none ∧ arr = #[]) ∨ ∃ rr clock, vm = .map (some rr) ∧ w.heap[rr]? = some (.map arr clock)) → ∃ y, (Instr.lookup t vm (.int kd n) ok).run P w = .ok y w ∧ ∀ b, some (pairA ok z f) = some b → VR ρ μ b y := by
        intro arr hER hvm
        have hck : ∀ b, (Instr.checkKey b 10000 kt (.int kd n)).run P w = .ok () w := fun b => run_checkInt (n := 9999) hkt
        have fin : ∀ o, Instr.findNow (.int kk) (.int kd n) arr.toList 0 = some o → (Instr.lookup t vm (.int kd n) ok).run P w = .ok (match o with
            | some (_, y) => if ok then .tuple #[y, .bool true] else y
            | none => if ok then .tuple #[x, .bool false] else x) w := by
          intro o ho
          have hf := MapKept.run_findKey (P := P) (w := w) hkt ho
          rcases hvm with ⟨rfl, rfl⟩ | ⟨rr, clock, rfl, hb⟩
          · cases o with
            | none => simp [Instr.lookup, run_und hmt, hck, hf, hz]
            | some p => simp [Instr.lookup, run_und hmt, hck, hf, hz]
          · have hget : (getObj rr).run P w = .ok (.map arr clock) w := by simp [getObj, Sem.run, hb]
            cases o with
            | none => simp [Instr.lookup, run_und hmt, hget, hck, hf, hz]
            | some p => simp [Instr.lookup, run_und hmt, hget, hck, hf, hz]
        rcases mFind_spec (kt := kk) hER h13 with ⟨q1, q2⟩ | ⟨j, a, y, q1, q2, q3⟩
        · exact ⟨_, fin _ q2, fun b hb => by cases hb; exact (pairA_spec hzv).1 q1⟩
        · exact ⟨_, fin _ q3, fun b hb => by cases hb; exact (pairA_spec hzv).2 _ _ _ q1 q2⟩
      unfold mapEs at h9
      split at h9
      · cases h9
        rw [VR] at hm
        exact main #[] rfl (.inl ⟨hm, rfl⟩)
      · rename_i id
        split at h9
        · rename_i es' hb
          cases h9
          rw [VR] at hm
          obtain ⟨p, hp1, rfl⟩ := hm
          obtain ⟨p', o, hp2, ho, arr, clock, rfl, hER⟩ := R.blk _ _ hb
          rw [hp1] at hp2
          cases hp2
          exact main arr hER (.inr ⟨_, clock, rfl, ho⟩)
        · cases h9
      · cases h9
    · cases h6
  · cases h2

theorem aMapUpdate_spec {h h' : H} {t : Nat} {m k v : AV} {vm vk vv : Value} {r : Option AV} (hp : pc.holds ρ) (R : Rel ρ μ h.get h.next w) (hm : VR ρ μ m vm) (hk : VR ρ μ k vk) (hv : VR ρ μ v vv) (hr : aMapUpdate P pc h t m k v = .ok (r, h')) :
    ∃ w', (Instr.mapUpdate t vm vk vv).run P w = .ok () w' ∧ Rel ρ μ h'.get h'.next w' ∧ Stp μ h.get h.next w μ h'.get w' ∧ r = none := by
  unfold aMapUpdate at hr
  obtain ⟨ti, h1, h2⟩ := Res.bind_eq_ok hr
  split at h2
  · rename_i kt e hd
    obtain ⟨tk, h3, h4⟩ := Res.bind_eq_ok h2
    rcases cond_eq h4 with ⟨h5, h6⟩ | ⟨_, h6⟩
    · obtain ⟨⟨kd, n⟩, h7, h8⟩ := Res.bind_eq_ok h6
      have hkey := keyA_spec hp hk h7
      subst hkey
      obtain ⟨kk, hkk⟩ := isIntD_td h5
      have hkt := td_int (tdR_spec h3) hkk
      have hmt := td_map (tdR_spec h1) hd
      split at h8
      · rename_i id
        split at h8
        · rename_i es hb
          obtain ⟨f, h9, h10⟩ := Res.bind_eq_ok h8
          split at h10
          · cases h10
            rw [VR] at hm
            obtain ⟨p, hp1, rfl⟩ := hm
            obtain ⟨p', o, hp2, ho, arr, clock, rfl, hER⟩ := R.blk _ _ hb
            rw [hp1] at hp2
            cases hp2
            have hget : (getObj p.1).run P w = .ok (.map arr clock) w := by simp [getObj, Sem.run, ho]
            have hset : ∀ o', (setObj p.1 o').run P w = .ok () (w.putObj p.1 o') := fun o' => by simp [setObj, Sem.run, ho, World.putObj]
            have hck : ∀ b, (Instr.checkKey b 10000 kt (.int kd n)).run P w = .ok () w := fun b => run_checkInt (n := 9999) hkt
            rcases mFind_spec (kt := kk) hER h9 with ⟨_, q2⟩ | ⟨j, a, y, q1, _⟩
            · have hf := MapKept.run_findKey (P := P) (w := w) hkt q2
              obtain ⟨q4, q5, q6⟩ := putObj_props (o' := .map (arr.push { key := .int kd n, val := vv, born := clock }) (clock + 1)) ho
              obtain ⟨R', S⟩ := R.replace (b' := .map (es ++ [(.int kd (.lit n), v)])) hb rfl rfl hp1 q4 q5 q6 ⟨_, _, rfl, by rw [Array.toList_push]; exact ER_push hER rfl hv⟩ rfl rfl rfl (put_fz ho (fun _ _ _ h => by cases h) (fun _ _ _ h => by cases h))
              exact ⟨w.putObj p.1 (.map (arr.push { key := .int kd n, val := vv, born := clock }) (clock + 1)), by simp [Instr.mapUpdate, run_und hmt, hget, hck, hf, hset], by rw [H.get_set]; exact R', by rw [H.get_set]; exact S, rfl⟩
            · cases q1
          · cases h10
        · cases h8
      · cases h8
    · cases h6
  · cases h2

theorem aMakeMap_spec {h h' : H} {t : Nat} {res : Option Operand} {rv : Operand → Value} {r : Option AV} (R : Rel ρ μ h.get h.next w) (hr : aMakeMap h res = .ok (r, h')) :
    ∃ y w' μ', (Instr.makeMap t (res.map rv)).run P w = .ok y w' ∧ Rel ρ μ' h'.get h'.next w' ∧ Stp μ h.get h.next w μ' h'.get w' ∧ ∀ b, r = some b → VR ρ μ' b y := by
  unfold aMakeMap at hr
  split at hr
  · cases hr
    have hid : μ h.next = none := by
      cases hm : μ h.next with
      | none => rfl
      | some p => have := R.fresh _ _ hm; omega
    obtain ⟨R', S⟩ := R.alloc (w' := w.alloc (.map #[] 0)) (z := 0) (b := .map []) (o := .map #[] 0) hid (Nat.le_refl _) (Nat.lt_succ_self _) (Nat.le_succ _) (by simp)
      (fun k hk => heap_alloc_old w _ k hk) (heap_alloc_new w _) ⟨_, _, rfl, rfl⟩ rfl rfl rfl (fun a _ => other_fz _ _ (fun _ _ _ h => by cases h) a)
    refine ⟨.map (some w.heap.size), w.alloc (.map #[] 0), upd μ h.next (some (w.heap.size, 0, 0)), rfl, ?_, ?_, ?_⟩
    · rw [H.get_new, H.next_new]; exact R'
    · rw [H.get_new]; exact S
    · intro b hb; cases hb; rw [VR]; exact ⟨(w.heap.size, 0, 0), by simp [upd], rfl⟩
  · cases hr

theorem aRange_spec {h h' : H} {t : Nat} {a : AV} {v : Value} {r : Option AV} (R : Rel ρ μ h.get h.next w) (hv : VR ρ μ a v) (hr : aRange P h t a = .ok (r, h')) :
    ∃ y w' μ', (Instr.range t v).run P w = .ok y w' ∧ Rel ρ μ' h'.get h'.next w' ∧ Stp μ h.get h.next w μ' h'.get w' ∧ ∀ b, r = some b → VR ρ μ' b y := by
  unfold aRange at hr
  obtain ⟨ti, h1, h2⟩ := Res.bind_eq_ok hr
  split at h2
  · rename_i n bs hd
    cases h2
    rw [VR] at hv
    obtain ⟨s, rfl, hs⟩ := hv
    have hid : μ h.next = none := by
      cases hm : μ h.next with
      | none => rfl
      | some p => have := R.fresh _ _ hm; omega
    obtain ⟨R', S⟩ := R.alloc (w' := w.alloc (.stringIter s 0)) (z := 0) (b := .siter n bs 0) (o := .stringIter s 0) hid (Nat.le_refl _) (Nat.lt_succ_self _) (Nat.le_succ _) (by simp)
      (fun k hk => heap_alloc_old w _ k hk) (heap_alloc_new w _) ⟨s, rfl, hs, rfl⟩ rfl rfl rfl (fun a _ => other_fz _ _ (fun _ _ _ h => by cases h) a)
    refine ⟨.pointer (some ⟨w.heap.size, 0, none⟩), w.alloc (.stringIter s 0), upd μ h.next (some (w.heap.size, 0, 0)), by simp [Instr.range, run_und (td_str (tdR_spec h1) hd)], ?_, ?_, ?_⟩
    · rw [H.get_new, H.next_new]; exact R'
    · rw [H.get_new]; exact S
    · intro b hb; cases hb; rw [VR]; exact ⟨(w.heap.size, 0, 0), by simp [upd], rfl⟩
  · cases h2

theorem aNext_spec {h h' : H} {t : Nat} {a : AV} {v : Value} {r : Option AV} (R : Rel ρ μ h.get h.next w) (hv : VR ρ μ a v) (hr : aNext h a = .ok (r, h')) :
    ∃ y w', (Instr.next v true t).run P w = .ok y w' ∧ Rel ρ μ h'.get h'.next w' ∧ Stp μ h.get h.next w μ h'.get w' ∧ ∀ b, r = some b → VR ρ μ b y := by
  unfold aNext at hr
  split at hr
  · rename_i id
    split at hr
    · rename_i n bs pos hb
      rw [VR] at hv
      obtain ⟨p, hp, rfl⟩ := hv
      obtain ⟨p', o, hp', ho, s, rfl, hs, hz0⟩ := R.blk _ _ hb
      rw [hp] at hp'
      cases hp'
      have hz := SR_size hs
      have hget : (getObj p.1).run P w = .ok (.stringIter s pos) w := by simp [getObj, Sem.run, ho]
      have hset : ∀ o', (setObj p.1 o').run P w = .ok () (w.putObj p.1 o') := fun o' => by simp [setObj, Sem.run, ho, World.putObj]
      rcases cond_eq hr with ⟨h1, h2⟩ | ⟨h1, h2⟩
      · have h1 : pos < n := by simpa using h1
        split at h2
        · rename_i b hnb
          rcases cond_eq h2 with ⟨h3, h4⟩ | ⟨_, h4⟩
          · cases h4
            have h3 : b < 128 := by simpa using h3
            rw [nth_eq] at hnb
            have hd : Utf8.decode s pos = (b, 1) := by
              have hg : s.data.toList[pos]? = some (UInt8.ofNat b) := by
                rw [hs.2, List.getElem?_map, hnb]; simp [SE.den]
              have hg' : s.get! (pos + 0) = UInt8.ofNat b := by
                rw [Array.getElem?_toList] at hg
                simp only [ByteArray.get!, Nat.add_zero]
                rw [getElem!_def, hg]
              have hb' : (UInt8.ofNat b).toNat = b := by simp; omega
              unfold Utf8.decode
              simp only [hg', hb']
              rw [if_pos h3]
            obtain ⟨q1, q2, q3⟩ := putObj_props (o' := .stringIter s (pos + 1)) ho
            obtain ⟨R', S⟩ := R.replace (b' := .siter n bs (pos + 1)) (o' := .stringIter s (pos + 1)) hb rfl rfl hp q1 q2 q3 ⟨s, rfl, hs, hz0⟩ rfl rfl rfl (put_fz ho (fun _ _ _ h => by cases h) (fun _ _ _ h => by cases h))
            refine ⟨.tuple #[.bool true, goInt pos, .int .i32 b], w.putObj p.1 (.stringIter s (pos + 1)), ?_, by rw [H.get_set]; exact R', by rw [H.get_set]; exact S, ?_⟩
            · have hps : pos < s.size := by omega
              simp [Instr.next, hz0, hget, hps, hd, hset]
            · intro c hc
              cases hc
              rw [VR]
              refine ⟨_, rfl, ?_⟩
              simp only [VRs_cons, VRs_nil, VR, SB.den, SE.den]
              exact ⟨_, _, rfl, rfl, _, _, rfl, rfl, _, _, rfl, rfl, rfl⟩
          · cases h4
        · cases h2
      · cases h2
        have h1 : ¬ pos < n := by
          have : ¬ (Nat.blt pos n = true) := by simp [h1]
          simpa using this
        refine ⟨.tuple #[.bool false], w, ?_, R, Stp.refl _ _ _ _, ?_⟩
        · have hps : ¬ pos < s.size := by omega
          simp [Instr.next, hz0, hget, hps]
        · intro c hc
          cases hc
          rw [VR]
          refine ⟨_, rfl, ?_⟩
          simp only [VRs_cons, VRs_nil, VR, SB.den]
          exact ⟨_, _, rfl, rfl, rfl⟩
    · cases hr
  · cases hr

end
end Go.Ev
