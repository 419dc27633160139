/- The evaluator's other operations on the heap are the model's; no theorem of the program yet; no conditions. -/
import Derived.Test.YtcibejieeieknaaGreatDoorEvI
import Derived.Laws.Append
import Derived.RangeFuncRecord
import Derived.Lib.ConvBytes
import Derived.Laws.AppendOwn
import Derived.MapKept
import Derived.Laws.BitsLemmas
set_option linter.unusedSimpArgs false
set_option linter.unusedVariables false
namespace Go.Ev
section
variable {ρ : Env} {μ : Mu} {P : Program} {pc : PC} {w : World}

theorem VRs_one {as : List AV} {vs : List Value} (h : VRs ρ μ as vs) (h1 : as.all AV.one = true) : ∀ v ∈ vs, v.oneCell' = true := by
  induction as generalizing vs with
  | nil => rw [VRs_nil] at h; subst h; intro v hv; cases hv
  | cons a as ih =>
    rw [VRs_cons] at h
    obtain ⟨y, r, rfl, h2, h3⟩ := h
    simp only [List.all_cons, Bool.and_eq_true] at h1
    intro v hv
    rcases List.mem_cons.1 hv with rfl | hv
    · exact VR_one h2 h1.1
    · exact ih h3 h1.2 v hv

/-- Cells with others laid over them. -/
theorem laid_get {c : Array Value} {off : Nat} {xs : List Value} (h : off + xs.length ≤ c.size) (j : Nat) :
    (c.toList.take off ++ xs ++ c.toList.drop (off + xs.length)).toArray[j]? = if off ≤ j ∧ j < off + xs.length then xs[j - off]? else c[j]? := by
  have hl : c.toList.length = c.size := Array.length_toList
  rw [List.getElem?_toArray]
  by_cases h1 : j < off
  · rw [List.append_assoc, List.getElem?_append_left (by simp; omega), List.getElem?_take, if_pos h1, if_neg (by omega), Array.getElem?_toList]
  · by_cases h2 : j < off + xs.length
    · rw [List.getElem?_append_left (by simp; omega), List.getElem?_append_right (by simp; omega), if_pos (by omega)]
      congr 1; simp; omega
    · rw [List.getElem?_append_right (by simp; omega), if_neg (by omega), List.getElem?_drop, Array.getElem?_toList]
      congr 1; simp; omega

theorem laid_size {c : Array Value} {off : Nat} {xs : List Value} (h : off + xs.length ≤ c.size) : (c.toList.take off ++ xs ++ c.toList.drop (off + xs.length)).toArray.size = c.size := by
  have hl : c.toList.length = c.size := Array.length_toList
  simp; omega

theorem wr_spec {h h' : H} {id off : Nat} {vs : List AV} {xs : List Value} (R : Rel ρ μ h.get h.next w) (hv : VRs ρ μ vs xs) (hr : wr h id off vs = .ok h') :
    ∃ p c e w', μ id = some p ∧ p.2.1 = 0 ∧ w.heap[p.1]? = some (.cells c e (0, 0)) ∧ off + xs.length ≤ c.size ∧ (∀ v ∈ xs, v.oneCell' = true) ∧
      w' = w.setRow p.1 (c.toList.take off ++ xs ++ c.toList.drop (off + xs.length)).toArray ∧
      (storeCells ⟨p.1, off, none⟩ xs).run P w = .ok () w' ∧ h'.next = h.next ∧ Rel ρ μ h'.get h.next w' ∧ Stp μ h.get h.next w μ h'.get w' := by
  unfold wr at hr
  split at hr
  · rename_i opn e m vals hb
    rcases cond_eq hr with ⟨h1, h2⟩ | ⟨_, h2⟩
    · cases h2
      clear hr
      simp only [Bool.and_eq_true] at h1
      have e1 : off + vs.length ≤ m := by simpa using h1.1
      have hone := VRs_one hv h1.2
      have hl := VRs_length hv
      obtain ⟨p, o, hp, ho, c, e', fr, rfl, h6, h7, h8, h9⟩ := R.blk _ _ hb
      obtain ⟨h10, rfl, rfl, h11⟩ := h8 rfl
      rw [h10, Nat.zero_add] at h7
      have hfit : off + xs.length ≤ c.size := by omega
      have hst := run_storeCells_at (P := P) p.1 off e' xs 0 c w ho (by omega) hone
      simp only [Nat.add_zero] at hst
      have hw : (w.setRow p.1 (c.toList.take off ++ xs ++ c.toList.drop (off + xs.length)).toArray).heap[p.1]? = some (.cells (c.toList.take off ++ xs ++ c.toList.drop (off + xs.length)).toArray e' (0, 0)) :=
        setRow_heap _ _ c _ _ _ ho
      have hB : BR ρ μ p (.cells true opn e' m (vals.puts off vs)) (.cells (c.toList.take off ++ xs ++ c.toList.drop (off + xs.length)).toArray e' (0, 0)) := by
        refine ⟨_, e', (0, 0), rfl, by rw [laid_size hfit]; exact h6, by rw [laid_size hfit, h10]; omega, fun _ => ⟨h10, rfl, rfl, fun hh => by rw [laid_size hfit]; exact h11 hh⟩, ?_⟩
        intro j v hj hjv
        rw [h10, Nat.zero_add, laid_get hfit]
        rw [T.get_puts] at hjv
        by_cases hin : off ≤ j ∧ j < off + vs.length
        · rw [if_pos hin] at hjv
          rw [if_pos (by omega)]
          exact VRs_get hv _ _ hjv
        · rw [if_neg hin] at hjv
          rw [if_neg (by omega)]
          have := h9 j v hj hjv
          rwa [h10, Nat.zero_add] at this
      obtain ⟨R', S⟩ := R.replace (b' := .cells true opn e' m (vals.puts off vs)) hb rfl rfl hp (setRow_size w p.1 _) (fun k hk => setRow_other w p.1 k _ hk) hw hB rfl rfl rfl (setRow_fz _ _ _)
      refine ⟨p, c, e', _, hp, h10, ho, hfit, hone, rfl, hst, rfl, ?_, ?_⟩
      · rw [H.get_set]; exact R'
      · rw [H.get_set]; exact S
    · cases h2
  · cases hr

theorem aStore_spec {h h' : H} {t : Nat} {a b : AV} {u v : Value} {r : Option AV} (R : Rel ρ μ h.get h.next w) (hu : VR ρ μ a u) (hv : VR ρ μ b v) (hr : aStore P h t b a = .ok (r, h')) :
    ∃ w', (Instr.storeAt t u v).run P w = .ok () w' ∧ Rel ρ μ h'.get h'.next w' ∧ Stp μ h.get h.next w μ h'.get w' ∧ r = none := by
  unfold aStore at hr
  split at hr
  · rename_i id off
    obtain ⟨ti, h1, h0⟩ := Res.bind_eq_ok hr
    rcases cond_eq h0 with ⟨h2, h3⟩ | ⟨_, h3⟩
    · obtain ⟨h4, h5, h6⟩ := Res.bind_eq_ok h3
      cases h6
      rw [VR] at hu
      obtain ⟨p, hp, rfl⟩ := hu
      have hc := VR_cells hv
      obtain ⟨p', c, e, w', hp', h10, ho, hfit, hone, hw, hst, hn, R', S⟩ := wr_spec (P := P) R hc h5
      rw [hp] at hp'
      cases hp'
      have hs : v.cells.size = ti.size := by rw [← beq_eq h2, VRs_size hc]
      refine ⟨w', ?_, by rw [hn]; exact R', S, rfl⟩
      simp [Instr.storeAt, Instr.sureAddr, storeVar, run_size (tdR_spec h1), hs, h10, hst]
    · cases h3
  · cases hr

/-! ### Texts and bytes -/
theorem push_fold : ∀ (ns : List Int) (s : ByteArray), (ns.foldl (fun r n => r.push (UInt8.ofNat n.toNat)) s).data.toList = s.data.toList ++ ns.map fun n => UInt8.ofNat n.toNat := by
  intro ns
  induction ns with
  | nil => intro s; simp
  | cons n ns ih => intro s; rw [List.foldl_cons, ih]; simp [ByteArray.push]

theorem bytesOfCells_spec : ∀ {cs : List AV} {l : List SE} {xs : List Value}, bytesOfCells cs = some l → VRs ρ μ cs xs → l.length = cs.length ∧ xs = (l.map fun e => Value.int .u8 (e.den ρ)) := by
  intro cs
  induction cs with
  | nil => intro l xs h hv; simp [bytesOfCells] at h; subst h; rw [VRs_nil] at hv; exact ⟨rfl, by simp [hv]⟩
  | cons c cs ih =>
    intro l xs h hv
    unfold bytesOfCells at h
    split at h
    · cases ‹_ :: _ = []›
    · rename_i e r he
      cases he
      split at h
      · rename_i l' hl
        cases h
        rw [VRs_cons] at hv
        obtain ⟨y, ys, rfl, h1, h2⟩ := hv
        obtain ⟨h3, h4⟩ := ih hl h2
        rw [VR] at h1
        exact ⟨by simp [h3], by simp [h1, h4]⟩
      · cases h
    · cases h

theorem aToStr_spec {h h' : H} {a : AV} {v : Value} {r : Option AV} (R : Rel ρ μ h.get h.next w) (hv : VR ρ μ a v) (hr : aToStr h a = .ok (r, h')) :
    h' = h ∧ ∃ y, (Conv.bytesToString v).run P w = .ok y w ∧ ∀ b, r = some b → VR ρ μ b y := by
  unfold aToStr at hr
  split at hr
  · cases hr
    rw [VR] at hv
    subst hv
    exact ⟨rfl, .string .empty, by simp [Conv.bytesToString], fun b hb => by cases hb; rw [VR]; exact ⟨_, rfl, rfl, rfl⟩⟩
  · cases hr
    rw [VR] at hv
    obtain ⟨ad, c, rfl⟩ := hv
    refine ⟨rfl, .string .empty, ?_, fun b hb => by cases hb; rw [VR]; exact ⟨_, rfl, rfl, rfl⟩⟩
    have := run_bytesToString (P := P) w ad 0 c [] (by simpa using run_loadCells_list (P := P) w ad [] (by simp))
    simpa using this
  · rename_i id off len ex cap es
    obtain ⟨cs, h1, h2⟩ := Res.bind_eq_ok hr
    split at h2
    · rename_i l hl
      cases h2
      rw [VR] at hv
      obtain ⟨p, c, hp, rfl, _⟩ := hv
      obtain ⟨p', xs, cc, e, fr, hp', ho, _, hfit, hx, hlen, hc⟩ := rd_spec R (fun b h => h) h1
      rw [hp] at hp'
      cases hp'
      obtain ⟨h3, h4⟩ := bytesOfCells_spec hl hx
      have hld := run_loadCells_list (P := P) w ⟨p.1, p.2.1 + off, none⟩ xs (fun j x hx => by rw [addr_add, cell_at ho]; exact hc j x hx)
      rw [hlen] at hld
      have hb := run_bytesToString (P := P) w ⟨p.1, p.2.1 + off, none⟩ len c (l.map fun e => e.den ρ) (by rw [hld, h4]; simp)
      refine ⟨rfl, _, hb, fun b hb => ?_⟩
      cases hb
      rw [VR]
      refine ⟨_, rfl, ?_, ?_⟩
      · have := VRs_length hx; omega
      · rw [push_fold]; simp
    · cases h2
  · cases hr

theorem u8_of {d : TD} (h : isU8 d = true) : d = .int .u8 := by
  unfold isU8 at h
  split at h
  · rfl
  · cases h

theorem bytesWorld_fz (w : World) (e : TypeId) (s : ByteArray) (a : Addr) (h : a.block < w.heap.size) : (Lib.bytesWorld w e s).frozen? a = w.frozen? a := by
  unfold World.frozen?
  rw [Lib.bytesWorld_at_old w e s a.block h]

theorem VRs_bytes {μ : Mu} : ∀ (l : List SE), VRs ρ μ (l.map fun b => .int .u8 b) (l.map fun b => .int .u8 (b.den ρ))
  | [] => VRs_nil.2 rfl
  | e :: l => VRs_cons.2 ⟨_, _, rfl, by rw [VR], VRs_bytes l⟩

theorem aToBytes_spec {h h' : H} {s d e : Nat} {a : AV} {v : Value} {r : Option AV} {u : TypeDesc} (hp : pc.holds ρ) (R : Rel ρ μ h.get h.next w) (hv : VR ρ μ a v) (hr : aToBytes pc h e a = .ok (r, h'))
    (hs : P.underlying s = some u) (hd : P.underlying d = some (.slice e)) (he : P.underlying e = some (.int .u8)) :
    ∃ y w' μ', (convert s d v).run P w = .ok y w' ∧ Rel ρ μ' h'.get h'.next w' ∧ Stp μ h.get h.next w μ' h'.get w' ∧ ∀ b, r = some b → VR ρ μ' b y := by
  unfold aToBytes at hr
  split at hr
  · rename_i n bs
    rcases cond_eq hr with ⟨h1, h2⟩ | ⟨_, h2⟩
    · cases h2
      rw [VR] at hv
      obtain ⟨t, rfl, ht⟩ := hv
      have hn := SR_size ht
      have hby : ∀ e ∈ bs, 0 ≤ e.den ρ ∧ e.den ρ ≤ 255 := fun e he => inByte_spec hp (List.all_eq_true.1 h1 e he)
      have hid : μ h.next = none := by
        cases hm : μ h.next with
        | none => rfl
        | some p => have := R.fresh _ _ hm; omega
      have hsz : (Lib.bytesCells w e t).size = grownCap w t.size 0 e := by
        have := grownCap_ge w t.size 0 e
        have h0 : t.data.size = t.size := rfl
        simp [Lib.bytesCells, h0]
        omega
      have hge := grownCap_ge w t.size 0 e
      have hcell : ∀ j v, j < n → (T.puts .nil 0 (bs.map fun b => AV.int .u8 b)).get j = some v → ∃ x, (Lib.bytesCells w e t)[j]? = some x ∧ ∀ μ, VR ρ μ v x := by
        intro j v hj hg
        rw [T.get_puts] at hg
        split at hg
        · rw [Nat.sub_zero, List.getElem?_map] at hg
          cases hb : bs[j]? with
          | none => rw [hb] at hg; cases hg
          | some b =>
            rw [hb] at hg
            cases hg
            have hbd := hby b (List.mem_of_getElem? hb)
            have h5 : t.data.toList[j]? = some (UInt8.ofNat (b.den ρ).toNat) := by rw [ht.2, List.getElem?_map, hb]; rfl
            have hjs : j < t.data.size := by have : t.data.size = t.size := rfl
                                             omega
            refine ⟨.int .u8 (b.den ρ), ?_, fun μ => by rw [VR]⟩
            unfold Lib.bytesCells
            rw [Array.getElem?_append_left (by simpa using hjs), Array.getElem?_map]
            rw [Array.getElem?_toList] at h5
            rw [h5]
            simp
            omega
        · rw [T.get_nil] at hg; cases hg
      obtain ⟨R', S⟩ := R.alloc (w' := Lib.bytesWorld w e t) (z := (Lib.bytesCells w e t).size) (b := .cells false true e n (T.puts .nil 0 (bs.map fun b => .int .u8 b))) (o := .cells (Lib.bytesCells w e t) e ((Lib.bytesCells w e t).size, (Lib.bytesCells w e t).size + 1)) hid (Nat.le_refl _) (Nat.lt_succ_self _) (Nat.le_succ _) (Lib.bytesWorld_size w e t)
        (fun k hk => Lib.bytesWorld_at_old w e t k hk) (Lib.bytesWorld_at_new w e t)
        ⟨_, _, _, rfl, rfl, by simp only [Nat.zero_add]; omega, (fun h => by cases h), fun j v hj hg => by
          obtain ⟨x, q1, q2⟩ := hcell j v hj hg
          exact ⟨x, by simpa using q1, q2 _⟩⟩ rfl rfl rfl (fun a ha => bytesWorld_fz w e t a ha)
      refine ⟨_, _, _, Lib.run_convert_string_bytes w s d e t hs hd he, by rw [H.get_new, H.next_new]; exact R', by rw [H.get_new]; exact S, fun b hb => ?_⟩
      cases hb
      rw [VR]
      exact ⟨(w.heap.size, 0, (Lib.bytesCells w e t).size), grownCap w t.size 0 e, by simp [upd], by rw [hn], (fun h => by cases h), by omega, Nat.le_refl _, by simp only; omega⟩
    · cases h2
  · cases hr

theorem aConv_spec {h h' : H} {s d : Nat} {a : AV} {v : Value} {r : Option AV} (hp : pc.holds ρ) (R : Rel ρ μ h.get h.next w) (hv : VR ρ μ a v) (hr : aConv P pc h s d a = .ok (r, h')) :
    ∃ y w' μ', (convert s d v).run P w = .ok y w' ∧ Rel ρ μ' h'.get h'.next w' ∧ Stp μ h.get h.next w μ' h'.get w' ∧ ∀ b, r = some b → VR ρ μ' b y := by
  unfold aConv at hr
  obtain ⟨ts, h1, h2⟩ := Res.bind_eq_ok hr
  obtain ⟨td, h3, h4⟩ := Res.bind_eq_ok h2
  split at h4
  · rename_i e hs hd
    obtain ⟨te, h5, h6⟩ := Res.bind_eq_ok h4
    rcases cond_eq h6 with ⟨h7, h8⟩ | ⟨_, h8⟩
    · obtain ⟨q, y, h9, h10⟩ := aToStr_spec (P := P) R hv h8
      subst q
      refine ⟨y, w, μ, ?_, R, Stp.refl _ _ _ _, h10⟩
      have hu := run_und (td_int (tdR_spec h5) (u8_of h7)) w
      have shape : ∃ a b c, v = .slice a b c := by
        unfold aToStr at h8
        split at h8
        · rw [VR] at hv; exact ⟨_, _, _, hv⟩
        · rw [VR] at hv; obtain ⟨_, _, hv⟩ := hv; exact ⟨_, _, _, hv⟩
        · rw [VR] at hv; obtain ⟨_, _, _, hv, _⟩ := hv; exact ⟨_, _, _, hv⟩
        · cases h8
      obtain ⟨x, b, c, rfl⟩ := shape
      simp [convert, run_und (td_slc (tdR_spec h1) hs), run_und (td_str (tdR_spec h3) hd), hu, h9]
    · cases h8
  · rename_i e hs hd
    obtain ⟨te, h5, h6⟩ := Res.bind_eq_ok h4
    rcases cond_eq h6 with ⟨h7, h8⟩ | ⟨_, h8⟩
    · exact aToBytes_spec hp R hv h8 (td_str (tdR_spec h1) hs) (td_slc (tdR_spec h3) hd) (td_int (tdR_spec h5) (u8_of h7))
    · cases h8
  · cases h4

/-! ### Ranges over texts -/
theorem putObj_props {r : Nat} {o o' : Obj} (h : w.heap[r]? = some o) : (w.putObj r o').heap.size = w.heap.size ∧ (∀ k, k ≠ r → (w.putObj r o').heap[k]? = w.heap[k]?) ∧ (w.putObj r o').heap[r]? = some o' := by
  have hlt := (Array.getElem?_eq_some_iff.1 h).1
  refine ⟨by simp [World.putObj], fun k hk => ?_, ?_⟩
  · simp only [World.putObj]
    rw [Array.getElem?_setIfInBounds_ne (fun e => hk e.symm)]
  · simp only [World.putObj]
    rw [Array.getElem?_setIfInBounds_self_of_lt hlt]

/-! ### Maps whose keys are whole numbers -/
theorem keyA_spec {k : AV} {v : Value} {kd : IntKind} {n : Int} (hp : pc.holds ρ) (hv : VR ρ μ k v) (h : keyA pc k = .ok (kd, n)) : v = .int kd n := by
  unfold keyA at h
  split at h
  · rename_i k' e
    split at h
    · rename_i m hm
      cases h
      rw [VR] at hv
      rw [hv]
      have := nrm_spec hp e
      rw [hm] at this
      rw [← this]; rfl
    · cases h
  · cases h

theorem intBeq_iff {a b : Int} : intBeq a b = (a == b) := by
  cases h : intBeq a b with
  | true => rw [intBeq_eq] at h; rw [h]
  | false => rw [intBeq_eq] at h; rw [h]

theorem mFind_spec {kd kt : IntKind} {n : Int} : ∀ {es : List (AV × AV)} {l : List MapEntry} {i : Nat} {r : Option (Nat × AV)}, ER ρ μ es l → mFind kd n es i = .ok r →
    (r = none ∧ Instr.findNow (.int kt) (.int kd n) l i = some none) ∨ ∃ j a x, r = some (j, a) ∧ VR ρ μ a x ∧ Instr.findNow (.int kt) (.int kd n) l i = some (some (j, x))
  | [], l, i, r, he, h => by
    cases h
    have he : l = [] := he
    subst he
    exact .inl ⟨rfl, rfl⟩
  | (k, v) :: es, l, i, r, he, h => by
    obtain ⟨e, l', rfl, ⟨kd', m, rfl, hk⟩, hv, he'⟩ := he
    have h : (bif ikBeq kd kd' then (bif intBeq n m then Res.ok (some (i, v)) else mFind kd n es (i + 1)) else .fail "map: kinds") = .ok r := h
    rcases cond_eq h with ⟨h1, h2⟩ | ⟨_, h2⟩
    · have h1 := ikBeq_eq h1
      subst h1
      rcases cond_eq h2 with ⟨h3, h4⟩ | ⟨h3, h4⟩
      · cases h4
        rw [intBeq_iff] at h3
        exact .inr ⟨i, v, e.val, rfl, hv, by simp [Instr.findNow, Instr.sameNow, hk, h3]⟩
      · rw [intBeq_iff] at h3
        rcases mFind_spec he' h4 with ⟨q1, q2⟩ | ⟨j, a, x, q1, q2, q3⟩
        · exact .inl ⟨q1, by simp only [Instr.findNow, Instr.sameNow, hk, if_true, h3]; exact q2⟩
        · exact .inr ⟨j, a, x, q1, q2, by simp only [Instr.findNow, Instr.sameNow, hk, if_true, h3]; exact q3⟩
    · cases h2

theorem ER_push {es : List (AV × AV)} {l : List MapEntry} {kd : IntKind} {n : Int} {v : AV} {e : MapEntry} (h : ER ρ μ es l) (hk : e.key = .int kd n) (hv : VR ρ μ v e.val) : ER ρ μ (es ++ [(.int kd (.lit n), v)]) (l ++ [e]) := by
  induction es generalizing l with
  | nil =>
    have h : l = [] := h
    subst h
    exact ⟨e, [], rfl, ⟨kd, n, rfl, hk⟩, hv, rfl⟩
  | cons x r ih =>
    obtain ⟨k, u⟩ := x
    obtain ⟨e', l', rfl, h2, h3, h4⟩ := h
    exact ⟨e', l' ++ [e], rfl, h2, h3, ih h4⟩

theorem isIntD_td {d : TD} (h : isIntD d = true) : ∃ k, d = .int k := by
  cases d <;> simp [isIntD] at h
  exact ⟨_, rfl⟩

theorem zeroA_spec {t : Nat} {z : AV} (h : zeroA P t = .ok z) : ∃ x, (zeroValue t).run P w = .ok x w ∧ VR ρ μ z x := by
  unfold zeroA at h
  split at h
  · rename_i i hi
    split at h
    · rename_i x hx
      exact ⟨x, by simp [zeroValue, typeInfo, hi, hx], ofValue_spec (Res.ofO_eq_ok h)⟩
    · cases h
  · cases h

theorem pairA_spec {ok : Bool} {z : AV} {x : Value} {r : Option (Nat × AV)} (hz : VR ρ μ z x) : (r = none → VR ρ μ (pairA ok z r) (if ok then .tuple #[x, .bool false] else x)) ∧
    ∀ j a y, r = some (j, a) → VR ρ μ a y → VR ρ μ (pairA ok z r) (if ok then .tuple #[y, .bool true] else y) := by
  refine ⟨fun h => ?_, fun j a y h hy => ?_⟩
  · subst h
    cases ok
    · exact hz
    · simp only [pairA, cond_true, if_true]
      rw [VR]
      exact ⟨_, rfl, VRs_cons.2 ⟨_, _, rfl, hz, VRs_cons.2 ⟨_, _, rfl, by rw [VR]; rfl, VRs_nil.2 rfl⟩⟩⟩
  · subst h
    cases ok
    · exact hy
    · simp only [pairA, cond_true, if_true]
      rw [VR]
      exact ⟨_, rfl, VRs_cons.2 ⟨_, _, rfl, hy, VRs_cons.2 ⟨_, _, rfl, by rw [VR]; rfl, VRs_nil.2 rfl⟩⟩⟩

theorem run_checkInt {b : Bool} {n : Nat} {kt : TypeId} {kk kd : IntKind} {m : Int} (h : P.underlying kt = some (.int kk)) : (Instr.checkKey b (n + 1) kt (.int kd m)).run P w = .ok () w := by
  simp [Instr.checkKey, run_und h]

theorem aLookup_spec {h h' : H} {t : Nat} {ok : Bool} {m k : AV} {vm vk : Value} {r : Option AV} (hp : pc.holds ρ) (R : Rel ρ μ h.get h.next w) (hm : VR ρ μ m vm) (hk : VR ρ μ k vk) (hr : aLookup P pc h t ok m k = .ok (r, h')) :
    h' = h ∧ ∃ y, (Instr.lookup t vm vk ok).run P w = .ok y w ∧ ∀ b, r = some b → VR ρ μ b y := by
  unfold aLookup at hr
  obtain ⟨ti, h1, h2⟩ := Res.bind_eq_ok hr
  split at h2
  · rename_i kt e hd
    obtain ⟨tk, h3, h4⟩ := Res.bind_eq_ok h2
    rcases cond_eq h4 with ⟨h5, h6⟩ | ⟨_, h6⟩
    · obtain ⟨⟨kd, n⟩, h7, h8⟩ := Res.bind_eq_ok h6
      obtain ⟨es, h9, h10⟩ := Res.bind_eq_ok h8
      obtain ⟨z, h11, h12⟩ := Res.bind_eq_ok h10
      obtain ⟨f, h13, h14⟩ := Res.bind_eq_ok h12
      cases h14
      have hkey := keyA_spec hp hk h7
      subst hkey
      obtain ⟨x, hz, hzv⟩ := zeroA_spec (ρ := ρ) (μ := μ) (w := w) h11
      obtain ⟨kk, hkk⟩ := isIntD_td h5
      have hkt := td_int (tdR_spec h3) hkk
      have hmt := td_map (tdR_spec h1) hd
      refine ⟨rfl, ?_⟩
      have main : ∀ (arr : Array MapEntry), ER ρ μ es arr.toList → ((vm = .map none ∧ arr = #[]) ∨ ∃ rr clock, vm = .map (some rr) ∧ w.heap[rr]? = some (.map arr clock)) → ∃ y, (Instr.lookup t vm (.int kd n) ok).run P w = .ok y w ∧ ∀ b, some (pairA ok z f) = some b → VR ρ μ b y := by
        intro arr hER hvm
        have hck : ∀ b, (Instr.checkKey b 10000 kt (.int kd n)).run P w = .ok () w := fun b => run_checkInt (n := 9999) hkt
        have fin : ∀ o, Instr.findNow (.int kk) (.int kd n) arr.toList 0 = some o → (Instr.lookup t vm (.int kd n) ok).run P w = .ok (match o with
            | some (_, y) => if ok then .tuple #[y, .bool true] else y
            | none => if ok then .tuple #[x, .bool false] else x) w := by
          intro o ho
          have hf := MapKept.run_findKey (P := P) (w := w) hkt ho
          rcases hvm with ⟨rfl, rfl⟩ | ⟨rr, clock, rfl, hb⟩
          · cases o with
            | none => simp [Instr.lookup, run_und hmt, hck, hf, hz]
            | some p => simp [Instr.lookup, run_und hmt, hck, hf, hz]
          · have hget : (getObj rr).run P w = .ok (.map arr clock) w := by simp [getObj, Sem.run, hb]
            cases o with
            | none => simp [Instr.lookup, run_und hmt, hget, hck, hf, hz]
            | some p => simp [Instr.lookup, run_und hmt, hget, hck, hf, hz]
        rcases mFind_spec (kt := kk) hER h13 with ⟨q1, q2⟩ | ⟨j, a, y, q1, q2, q3⟩
        · exact ⟨_, fin _ q2, fun b hb => by cases hb; exact (pairA_spec hzv).1 q1⟩
        · exact ⟨_, fin _ q3, fun b hb => by cases hb; exact (pairA_spec hzv).2 _ _ _ q1 q2⟩
      unfold mapEs at h9
      split at h9
      · cases h9
        rw [VR] at hm
        exact main #[] rfl (.inl ⟨hm, rfl⟩)
      · rename_i id
        split at h9
        · rename_i es' hb
          cases h9
          rw [VR] at hm
          obtain ⟨p, hp1, rfl⟩ := hm
          obtain ⟨p', o, hp2, ho, arr, clock, rfl, hER⟩ := R.blk _ _ hb
          rw [hp1] at hp2
          cases hp2
          exact main arr hER (.inr ⟨_, clock, rfl, ho⟩)
        · cases h9
      · cases h9
    · cases h6
  · cases h2

theorem aMapUpdate_spec {h h' : H} {t : Nat} {m k v : AV} {vm vk vv : Value} {r : Option AV} (hp : pc.holds ρ) (R : Rel ρ μ h.get h.next w) (hm : VR ρ μ m vm) (hk : VR ρ μ k vk) (hv : VR ρ μ v vv) (hr : aMapUpdate P pc h t m k v = .ok (r, h')) :
    ∃ w', (Instr.mapUpdate t vm vk vv).run P w = .ok () w' ∧ Rel ρ μ h'.get h'.next w' ∧ Stp μ h.get h.next w μ h'.get w' ∧ r = none := by
  unfold aMapUpdate at hr
  obtain ⟨ti, h1, h2⟩ := Res.bind_eq_ok hr
  split at h2
  · rename_i kt e hd
    obtain ⟨tk, h3, h4⟩ := Res.bind_eq_ok h2
    rcases cond_eq h4 with ⟨h5, h6⟩ | ⟨_, h6⟩
    · obtain ⟨⟨kd, n⟩, h7, h8⟩ := Res.bind_eq_ok h6
      have hkey := keyA_spec hp hk h7
      subst hkey
      obtain ⟨kk, hkk⟩ := isIntD_td h5
      have hkt := td_int (tdR_spec h3) hkk
      have hmt := td_map (tdR_spec h1) hd
      split at h8
      · rename_i id
        split at h8
        · rename_i es hb
          obtain ⟨f, h9, h10⟩ := Res.bind_eq_ok h8
          split at h10
          · cases h10
            rw [VR] at hm
            obtain ⟨p, hp1, rfl⟩ := hm
            obtain ⟨p', o, hp2, ho, arr, clock, rfl, hER⟩ := R.blk _ _ hb
            rw [hp1] at hp2
            cases hp2
            have hget : (getObj p.1).run P w = .ok (.map arr clock) w := by simp [getObj, Sem.run, ho]
            have hset : ∀ o', (setObj p.1 o').run P w = .ok () (w.putObj p.1 o') := fun o' => by simp [setObj, Sem.run, ho, World.putObj]
            have hck : ∀ b, (Instr.checkKey b 10000 kt (.int kd n)).run P w = .ok () w := fun b => run_checkInt (n := 9999) hkt
            rcases mFind_spec (kt := kk) hER h9 with ⟨_, q2⟩ | ⟨j, a, y, q1, _⟩
            · have hf := MapKept.run_findKey (P := P) (w := w) hkt q2
              obtain ⟨q4, q5, q6⟩ := putObj_props (o' := .map (arr.push { key := .int kd n, val := vv, born := clock }) (clock + 1)) ho
              obtain ⟨R', S⟩ := R.replace (b' := .map (es ++ [(.int kd (.lit n), v)])) hb rfl rfl hp1 q4 q5 q6 ⟨_, _, rfl, by rw [Array.toList_push]; exact ER_push hER rfl hv⟩ rfl rfl rfl (put_fz ho (fun _ _ _ h => by cases h) (fun _ _ _ h => by cases h))
              exact ⟨w.putObj p.1 (.map (arr.push { key := .int kd n, val := vv, born := clock }) (clock + 1)), by simp [Instr.mapUpdate, run_und hmt, hget, hck, hf, hset], by rw [H.get_set]; exact R', by rw [H.get_set]; exact S, rfl⟩
            · cases q1
          · cases h10
        · cases h8
      · cases h8
    · cases h6
  · cases h2

theorem aMakeMap_spec {h h' : H} {t : Nat} {res : Option Operand} {rv : Operand → Value} {r : Option AV} (R : Rel ρ μ h.get h.next w) (hr : aMakeMap h res = .ok (r, h')) :
    ∃ y w' μ', (Instr.makeMap t (res.map rv)).run P w = .ok y w' ∧ Rel ρ μ' h'.get h'.next w' ∧ Stp μ h.get h.next w μ' h'.get w' ∧ ∀ b, r = some b → VR ρ μ' b y := by
  unfold aMakeMap at hr
  split at hr
  · cases hr
    have hid : μ h.next = none := by
      cases hm : μ h.next with
      | none => rfl
      | some p => have := R.fresh _ _ hm; omega
    obtain ⟨R', S⟩ := R.alloc (w' := w.alloc (.map #[] 0)) (z := 0) (b := .map []) (o := .map #[] 0) hid (Nat.le_refl _) (Nat.lt_succ_self _) (Nat.le_succ _) (by simp)
      (fun k hk => heap_alloc_old w _ k hk) (heap_alloc_new w _) ⟨_, _, rfl, rfl⟩ rfl rfl rfl (fun a _ => other_fz _ _ (fun _ _ _ h => by cases h) a)
    refine ⟨.map (some w.heap.size), w.alloc (.map #[] 0), upd μ h.next (some (w.heap.size, 0, 0)), rfl, ?_, ?_, ?_⟩
    · rw [H.get_new, H.next_new]; exact R'
    · rw [H.get_new]; exact S
    · intro b hb; cases hb; rw [VR]; exact ⟨(w.heap.size, 0, 0), by simp [upd], rfl⟩
  · cases hr

theorem aRange_spec {h h' : H} {t : Nat} {a : AV} {v : Value} {r : Option AV} (R : Rel ρ μ h.get h.next w) (hv : VR ρ μ a v) (hr : aRange P h t a = .ok (r, h')) :
    ∃ y w' μ', (Instr.range t v).run P w = .ok y w' ∧ Rel ρ μ' h'.get h'.next w' ∧ Stp μ h.get h.next w μ' h'.get w' ∧ ∀ b, r = some b → VR ρ μ' b y := by
  unfold aRange at hr
  obtain ⟨ti, h1, h2⟩ := Res.bind_eq_ok hr
  split at h2
  · rename_i n bs hd
    cases h2
    rw [VR] at hv
    obtain ⟨s, rfl, hs⟩ := hv
    have hid : μ h.next = none := by
      cases hm : μ h.next with
      | none => rfl
      | some p => have := R.fresh _ _ hm; omega
    obtain ⟨R', S⟩ := R.alloc (w' := w.alloc (.stringIter s 0)) (z := 0) (b := .siter n bs 0) (o := .stringIter s 0) hid (Nat.le_refl _) (Nat.lt_succ_self _) (Nat.le_succ _) (by simp)
      (fun k hk => heap_alloc_old w _ k hk) (heap_alloc_new w _) ⟨s, rfl, hs, rfl⟩ rfl rfl rfl (fun a _ => other_fz _ _ (fun _ _ _ h => by cases h) a)
    refine ⟨.pointer (some ⟨w.heap.size, 0, none⟩), w.alloc (.stringIter s 0), upd μ h.next (some (w.heap.size, 0, 0)), by simp [Instr.range, run_und (td_str (tdR_spec h1) hd)], ?_, ?_, ?_⟩
    · rw [H.get_new, H.next_new]; exact R'
    · rw [H.get_new]; exact S
    · intro b hb; cases hb; rw [VR]; exact ⟨(w.heap.size, 0, 0), by simp [upd], rfl⟩
  · cases h2

theorem aNext_spec {h h' : H} {t : Nat} {a : AV} {v : Value} {r : Option AV} (R : Rel ρ μ h.get h.next w) (hv : VR ρ μ a v) (hr : aNext h a = .ok (r, h')) :
    ∃ y w', (Instr.next v true t).run P w = .ok y w' ∧ Rel ρ μ h'.get h'.next w' ∧ Stp μ h.get h.next w μ h'.get w' ∧ ∀ b, r = some b → VR ρ μ b y := by
  unfold aNext at hr
  split at hr
  · rename_i id
    split at hr
    · rename_i n bs pos hb
      rw [VR] at hv
      obtain ⟨p, hp, rfl⟩ := hv
      obtain ⟨p', o, hp', ho, s, rfl, hs, hz0⟩ := R.blk _ _ hb
      rw [hp] at hp'
      cases hp'
      have hz := SR_size hs
      have hget : (getObj p.1).run P w = .ok (.stringIter s pos) w := by simp [getObj, Sem.run, ho]
      have hset : ∀ o', (setObj p.1 o').run P w = .ok () (w.putObj p.1 o') := fun o' => by simp [setObj, Sem.run, ho, World.putObj]
      rcases cond_eq hr with ⟨h1, h2⟩ | ⟨h1, h2⟩
      · have h1 : pos < n := by simpa using h1
        split at h2
        · rename_i b hnb
          rcases cond_eq h2 with ⟨h3, h4⟩ | ⟨_, h4⟩
          · cases h4
            have h3 : b < 128 := by simpa using h3
            rw [nth_eq] at hnb
            have hd : Utf8.decode s pos = (b, 1) := by
              have hg : s.data.toList[pos]? = some (UInt8.ofNat b) := by
                rw [hs.2, List.getElem?_map, hnb]; simp [SE.den]
              have hg' : s.get! (pos + 0) = UInt8.ofNat b := by
                rw [Array.getElem?_toList] at hg
                simp only [ByteArray.get!, Nat.add_zero]
                rw [getElem!_def, hg]
              have hb' : (UInt8.ofNat b).toNat = b := by simp; omega
              unfold Utf8.decode
              simp only [hg', hb']
              rw [if_pos h3]
            obtain ⟨q1, q2, q3⟩ := putObj_props (o' := .stringIter s (pos + 1)) ho
            obtain ⟨R', S⟩ := R.replace (b' := .siter n bs (pos + 1)) (o' := .stringIter s (pos + 1)) hb rfl rfl hp q1 q2 q3 ⟨s, rfl, hs, hz0⟩ rfl rfl rfl (put_fz ho (fun _ _ _ h => by cases h) (fun _ _ _ h => by cases h))
            refine ⟨.tuple #[.bool true, goInt pos, .int .i32 b], w.putObj p.1 (.stringIter s (pos + 1)), ?_, by rw [H.get_set]; exact R', by rw [H.get_set]; exact S, ?_⟩
            · have hps : pos < s.size := by omega
              simp [Instr.next, hz0, hget, hps, hd, hset]
            · intro c hc
              cases hc
              rw [VR]
              refine ⟨_, rfl, ?_⟩
              simp only [VRs_cons, VRs_nil, VR, SB.den, SE.den]
              exact ⟨_, _, rfl, rfl, _, _, rfl, rfl, _, _, rfl, rfl, rfl⟩
          · cases h4
        · cases h2
      · cases h2
        have h1 : ¬ pos < n := by
          have : ¬ (Nat.blt pos n = true) := by simp [h1]
          simpa using this
        refine ⟨.tuple #[.bool false], w, ?_, R, Stp.refl _ _ _ _, ?_⟩
        · have hps : ¬ pos < s.size := by omega
          simp [Instr.next, hz0, hget, hps]
        · intro c hc
          cases hc
          rw [VR]
          refine ⟨_, rfl, ?_⟩
          simp only [VRs_cons, VRs_nil, VR, SB.den]
          exact ⟨_, _, rfl, rfl, rfl⟩
    · cases hr
  · cases hr

end
end Go.Ev

/- The evaluator's append and copy are the model's; no theorem of the program yet; no conditions. -/
namespace Go.Ev
section
variable {ρ : Env} {μ : Mu} {P : Program} {pc : PC} {w : World} {g : G} {nx : Nat}

theorem Rel.drew (R : Rel ρ μ g nx w) : Rel ρ μ g nx w.drew := ⟨R.blk, R.inj, R.fresh, R.glob⟩

theorem lenOfA_spec {a : AV} {v : Value} {n : Nat} (hv : VR ρ μ a v) (h : lenOfA a = .ok n) : (Builtin.lenOf v).run P w = .ok n w := by
  unfold lenOfA at h
  split at h
  · cases h; rw [VR] at hv; obtain ⟨_, _, _, rfl, _⟩ := hv; rfl
  · cases h; rw [VR] at hv; subst hv; rfl
  · cases h; rw [VR] at hv; obtain ⟨_, _, rfl⟩ := hv; rfl
  · cases h; rw [VR] at hv; obtain ⟨s, rfl, hs⟩ := hv; simp [Builtin.lenOf, SR_size hs]
  · cases h

theorem firstA_spec {h : H} {size n m : Nat} {a : AV} {v : Value} {cs : List AV} (hp : pc.holds ρ) (R : Rel ρ μ h.get nx w) (hv : VR ρ μ a v) (hm : lenOfA a = .ok m) (hn : n ≤ m) (hr : firstA pc h size n a = .ok cs) :
    ∃ xs, (Builtin.firstCells size n v).run P w = .ok xs.toArray w ∧ VRs ρ μ cs xs ∧ xs.length = n * size := by
  unfold firstA at hr
  split at hr
  · rename_i id off len ex cap es
    rw [VR] at hv
    obtain ⟨p, c, hp, rfl, _⟩ := hv
    obtain ⟨p', xs, cc, e, fr, hp', ho, _, hfit, hx, hlen, hc⟩ := rd_spec R (fun b h => h) hr
    rw [hp] at hp'
    cases hp'
    have hld := run_loadCells_list (P := P) w ⟨p.1, p.2.1 + off, none⟩ xs (fun j x hx => by rw [addr_add, cell_at ho]; exact hc j x hx)
    rw [hlen] at hld
    exact ⟨xs, by simp [Builtin.firstCells, hld], hx, hlen⟩
  · cases hr
    simp only [lenOfA, Res.ok.injEq] at hm
    have : n = 0 := by omega
    subst this
    rw [VR] at hv
    subst hv
    exact ⟨[], by simp [Builtin.firstCells], VRs_nil.2 rfl, by simp⟩
  · cases hr
    simp only [lenOfA, Res.ok.injEq] at hm
    have : n = 0 := by omega
    subst this
    rw [VR] at hv
    obtain ⟨ad, c, rfl⟩ := hv
    refine ⟨[], ?_, VRs_nil.2 rfl, by simp⟩
    have := run_loadCells_list (P := P) w ad [] (by simp)
    simp only [Builtin.firstCells, Nat.zero_mul]
    simpa using this
  · rename_i k bs
    rcases cond_eq hr with ⟨h1, h2⟩ | ⟨_, h2⟩
    · cases h2
      simp only [lenOfA, Res.ok.injEq] at hm
      simp only [Bool.and_eq_true] at h1
      have hsz := beq_eq h1.2
      rw [VR] at hv
      obtain ⟨s, rfl, hs⟩ := hv
      have hz := SR_size hs
      have hby : ∀ e ∈ bs.take n, 0 ≤ e.den ρ ∧ e.den ρ ≤ 255 := fun e he => inByte_spec hp (by simpa using List.all_eq_true.1 h1.1 e he)
      refine ⟨(bs.take n).map fun e => .int .u8 (e.den ρ), ?_, ?_, ?_⟩
      · simp only [Builtin.firstCells, Sem.run_pure]
        congr 1
        apply Array.ext'
        have hd : (s.extract 0 n).data.toList = (bs.take n).map fun e => UInt8.ofNat (e.den ρ).toNat := by
          have := (SR_sub hs (Nat.zero_le n) (by omega)).2
          simpa using this
        rw [Array.toList_map, hd, List.map_map]
        apply List.map_congr_left
        intro e he
        have := hby e he
        simp only [Function.comp]
        congr 1
        simp
        omega
      · generalize bs.take n = l
        induction l with
        | nil => exact VRs_nil.2 rfl
        | cons e l ih => exact VRs_cons.2 ⟨_, _, rfl, by rw [VR], ih⟩
      · have := hs.1
        simp
        rw [hsz]
        omega
    · cases h2
  · cases hr

section conc
variable {ts : Array TypeId} {us : Array Value} {t tx e ty : TypeId} {dx : TypeDesc} {te : TI} {base : Option Addr} {x : Value} {sLen sCap n : Nat}

theorem app_grow (h0 : ts[0]? = some t) (h1 : ts[1]? = some tx) (h2 : us[0]? = some (.slice base sLen sCap)) (h3 : us[1]? = some x) (ht : P.underlying t = some (.slice e)) (hx : P.underlying tx = some dx) (hni : (∃ k, dx = .slice k) ∨ dx = .string)
    (hl : ∀ w, (Builtin.lenOf x).run P w = .ok n w) (he : tinfo P e = some te) {olds news : List Value} (ho : (Builtin.firstCells te.size sLen (.slice base sLen sCap)).run P w.drew = .ok olds.toArray w.drew)
    (hn : (Builtin.firstCells te.size n x).run P w.drew = .ok news.toArray w.drew) (hg : sCap < sLen + n) (hb : (sLen + n) * te.bytes ≤ 140737488355328) (h63 : sLen + n ≤ 140737488355328) :
    ∃ cap z, (Builtin.append_ ts ty us).run P w = .ok (.slice (some ⟨w.heap.size, 0, none⟩) (sLen + n) cap) (w.drew.alloc (.cells (olds.toArray ++ news.toArray ++ Builtin.zeroCells z (cap - (sLen + n))) e)) ∧ sLen + n ≤ cap ∧ VRs ρ μ te.zero z.toList := by
  obtain ⟨i, d, z, g1, g2, g3, g4, g5, g6, g7⟩ := tinfo_spec he
  have hng : ¬ (sLen + n ≤ sCap) := by omega
  have h63' : ¬ (9223372036854775807 < ((sLen : Int) + (n : Int))) := by omega
  have h48 := growslice_fits hg (g6 ▸ hb : (sLen + n) * i.bytes ≤ _)
  have h48' : ¬ (281474976710656 < Builtin.nextslicecap (sLen + n) sCap * i.bytes) := by omega
  refine ⟨grownCap w (sLen + n) sCap e, z.cells, ?_, grownCap_ge _ _ _ _, g7 _ _⟩
  rw [g5] at ho hn
  rcases hni with ⟨k, rfl⟩ | rfl <;>
    simp [Builtin.append_, h0, h1, h2, h3, run_und ht, run_und hx, sizeOf, typeInfo, zeroValue, g1, g3, hl, hng, h63', h48', Question.forced, ho, hn, newRow, grownCap] <;>
    (congr 2; apply Array.ext'; simp)

theorem app_zeros {kx kd : IntKind} (h0 : ts[0]? = some t) (h1 : ts[1]? = some tx) (h2 : us[0]? = some (.slice none 0 0)) (h3 : us[1]? = some (.int kd (n : Int))) (ht : P.underlying t = some (.slice e)) (hx : P.underlying tx = some (.int kx))
    (he : tinfo P e = some te) (he1 : 1 ≤ te.size) (hn : 1 ≤ n) (hb : n * te.bytes ≤ 140737488355328) (h63 : n ≤ 140737488355328) :
    ∃ cap z, (Builtin.append_ ts ty us).run P w = .ok (.slice (some ⟨w.heap.size, 0, none⟩) n cap) (w.drew.alloc (.cells (Builtin.zeroCells z n ++ Builtin.zeroCells z (cap - n)) e)) ∧ n ≤ cap ∧ VRs ρ μ te.zero z.toList := by
  obtain ⟨i, d, z, g1, g2, g3, g4, g5, g6, g7⟩ := tinfo_spec he
  have hw : IntKind.i64.wrap (n : Int) = n := by rw [IntKind.wrap_i64]; omega
  have h0' : ¬ ((n : Int) < 0) := by omega
  have hn0 : ¬ (n = 0) := by omega
  have hs0 : ¬ (i.size = 0) := by rw [← g5]; omega
  have h63' : ¬ (9223372036854775807 < (n : Int)) := by omega
  have hb' : ¬ (281474976710656 < (n : Int) * (i.bytes : Int)) := by
    have : n * i.bytes ≤ 140737488355328 := g6 ▸ hb
    have h2 : (n : Int) * (i.bytes : Int) = ((n * i.bytes : Nat) : Int) := (Int.natCast_mul _ _).symm
    rw [h2]
    omega
  have h48 := growslice_fits (need := n) (old := 0) (bytes := i.bytes) (by omega) (g6 ▸ hb)
  have h48' : ¬ (281474976710656 < Builtin.nextslicecap n 0 * i.bytes) := by omega
  refine ⟨grownCap w n 0 e, z.cells, ?_, grownCap_ge _ _ _ _, g7 _ _⟩
  simp [Builtin.append_, h0, h1, h2, h3, run_und ht, run_und hx, sizeOf, typeInfo, zeroValue, g1, g3, hw, h0', hb', hn0, hs0, h63', h48', Question.forced, newRow, grownCap, asInt, asIntOf, Builtin.firstCells]
  intro hz
  rcases Nat.mul_eq_zero.1 hz with q | q
  · exact absurd q hn0
  · exact absurd q hs0

theorem app_room (h0 : ts[0]? = some t) (h1 : ts[1]? = some tx) (h2 : us[0]? = some (.slice base sLen sCap)) (h3 : us[1]? = some x) (ht : P.underlying t = some (.slice e)) (hx : P.underlying tx = some dx) (hni : (∃ k, dx = .slice k) ∨ dx = .string)
    (hl : ∀ w, (Builtin.lenOf x).run P w = .ok n w) (he : tinfo P e = some te) {news : List Value} {w' : World}
    (hn : (Builtin.firstCells te.size n x).run P w = .ok news.toArray w) (hg : sLen + n ≤ sCap) (hst : ∀ a, base = some a → (storeCells (a.add (sLen * te.size)) news).run P w = .ok () w') (hno : base = none → w' = w) :
    (Builtin.append_ ts ty us).run P w = .ok (.slice base (sLen + n) sCap) w' := by
  obtain ⟨i, d, z, g1, g2, g3, g4, g5, g6, g7⟩ := tinfo_spec he
  rw [g5] at hn hst
  cases base with
  | none =>
    rw [hno rfl]
    rcases hni with ⟨k, rfl⟩ | rfl <;>
      simp [Builtin.append_, h0, h1, h2, h3, run_und ht, run_und hx, sizeOf, typeInfo, g1, hl, hg, hn]
  | some a =>
    have := hst a rfl
    rcases hni with ⟨k, rfl⟩ | rfl <;>
      simp [Builtin.append_, h0, h1, h2, h3, run_und ht, run_und hx, sizeOf, typeInfo, g1, hl, hg, hn, this]
end conc

theorem BR_open {p : Loc} {e : Nat} {cs : List AV} {xs : List Value} {rest : Array Value} (hv : VRs ρ μ cs xs) (hp : p.2.1 = 0) (hp2 : p.2.2 = (xs.toArray ++ rest).size) : BR ρ μ p (blkOf true e cs) (.cells (xs.toArray ++ rest) e (0, 0)) := by
  have hl := VRs_length hv
  refine ⟨_, e, (0, 0), rfl, hp2, by simp; omega, fun _ => ⟨hp, rfl, rfl, fun h => by cases h⟩, ?_⟩
  intro j v hj h
  rw [T.get_puts, if_pos (by omega), Nat.sub_zero] at h
  obtain ⟨x, h1, h2⟩ := VRs_get hv _ _ h
  refine ⟨x, ?_, h2⟩
  rw [hp, Nat.zero_add, Array.getElem?_append_left (by simp; omega)]
  simpa using h1

theorem Rel.rename {id : Nat} {b : Blk} {p : Loc} (R : Rel ρ μ g nx w) (hb : g id = some b) (hp : μ id = some p) :
    Rel ρ (upd μ nx (some p)) (upd (upd g id none) nx (some b)) (nx + 1) w ∧ Stp μ g nx w (upd μ nx (some p)) (upd (upd g id none) nx (some b)) w := by
  have hid : μ nx = none := by
    cases hm : μ nx with
    | none => rfl
    | some p => have := R.fresh _ _ hm; omega
  have hle : μ.le (upd μ nx (some p)) := by
    intro j q h
    unfold upd
    split
    · rename_i e; subst e; rw [hid] at h; cases h
    · exact h
  have hmu : ∀ {j q}, j ≠ nx → upd μ nx (some p) j = some q → μ j = some q := by
    intro j q hj h; unfold upd at h; rwa [if_neg hj] at h
  have hg : ∀ {j c}, j ≠ nx → upd (upd g id none) nx (some b) j = some c → j ≠ id ∧ g j = some c := by
    intro j c hj h
    unfold upd at h
    rw [if_neg hj] at h
    split at h
    · cases h
    · rename_i e; exact ⟨e, h⟩
  have hnew : ∀ {c}, upd (upd g id none) nx (some b) nx = some c → c = b := by intro c h; simp [upd] at h; exact h.symm
  have hmn : ∀ {q}, upd μ nx (some p) nx = some q → q = p := by intro q h; simp [upd] at h; exact h.symm
  constructor
  · refine ⟨?_, ?_, ?_, ?_⟩
    · intro j c hc
      by_cases e : j = nx
      · subst e
        rw [hnew hc]
        obtain ⟨q, o, h1, h2, h3⟩ := R.blk id b hb
        rw [hp] at h1; cases h1
        exact ⟨p, o, by simp [upd], h2, BR_mono hle h3⟩
      · obtain ⟨q, o, h1, h2, h3⟩ := R.blk j c (hg e hc).2
        exact ⟨q, o, hle _ _ h1, h2, BR_mono hle h3⟩
    · intro i j c c' q r hi hj ho hne hq hr
      by_cases ei : i = nx
      · subst ei
        have ej : j ≠ i := fun h => hne h.symm
        rw [hmn hq]
        rw [hnew hi] at ho
        exact R.inj id j b c' p r hb (hg ej hj).2 ho (fun h => (hg ej hj).1 h.symm) hp (hmu ej hr)
      · by_cases ej : j = nx
        · subst ej
          rw [hmn hr]
          exact R.inj i id c b q p (hg ei hi).2 hb ho (hg ei hi).1 (hmu ei hq) hp
        · exact R.inj i j c c' q r (hg ei hi).2 (hg ej hj).2 ho hne (hmu ei hq) (hmu ej hr)
    · intro j q h
      by_cases e : j = nx
      · omega
      · exact Nat.lt_succ_of_lt (R.fresh j q (hmu e h))
    · intro k hk
      obtain ⟨y, hy⟩ := R.glob k hk
      exact ⟨y, hle _ _ hy⟩
  · refine ⟨hle, ?_, ?_, Nat.le_refl _, rfl, rfl, rfl, fun _ _ _ => rfl, ?_, fun _ _ => rfl⟩
    · intro j q h
      by_cases e : j = nx
      · exact .inr (by omega)
      · exact .inl (hmu e h)
    · intro j c h
      by_cases e : j = nx
      · exact .inr (by omega)
      · exact .inl ⟨c, (hg e h).2⟩
    · intro j c q h hq
      by_cases e : j = nx
      · subst e
        rw [hnew h, hmn hq]
        exact .inr ⟨id, b, p, hb, hp, rfl, fun h => h⟩
      · exact .inr ⟨j, c, q, (hg e h).2, hmu e hq, rfl, fun h => h⟩

theorem Rel.none_next (R : Rel ρ μ g nx w) : μ nx = none := by
  cases hm : μ nx with
  | none => rfl
  | some p => have := R.fresh _ _ hm; omega

/-- A new open block, behind one question. -/
theorem Rel.open (R : Rel ρ μ g nx w) {e : Nat} {cs : List AV} {xs : List Value} {rest : Array Value} (hv : VRs ρ μ cs xs) :
    ∃ μ', Rel ρ μ' (upd g nx (some (blkOf true e cs))) (nx + 1) (w.drew.alloc (.cells (xs.toArray ++ rest) e)) ∧ Stp μ g nx w μ' (upd g nx (some (blkOf true e cs))) (w.drew.alloc (.cells (xs.toArray ++ rest) e)) ∧
      μ' nx = some (w.heap.size, 0, (xs.toArray ++ rest).size) := by
  have hle : μ.le (upd μ nx (some (w.heap.size, 0, (xs.toArray ++ rest).size))) := by
    intro j q h
    unfold upd
    split
    · rename_i e; subst e; rw [R.none_next] at h; cases h
    · exact h
  obtain ⟨R', S⟩ := R.alloc (w' := w.drew.alloc (.cells (xs.toArray ++ rest) e)) (z := (xs.toArray ++ rest).size) (b := blkOf true e cs) (o := .cells (xs.toArray ++ rest) e) R.none_next (Nat.le_refl _) (Nat.lt_succ_self _) (Nat.le_succ _) (by simp)
    (fun k hk => heap_alloc_old w.drew _ k hk) (heap_alloc_new w.drew _) (BR_open (VRs_mono hle hv) rfl rfl) rfl rfl rfl (fun a _ => RowKit.frozen?_alloc_cells w.drew _ _ a)
  exact ⟨_, R', S, by simp [upd]⟩

theorem zeroCells_size {z : Array Value} {n : Nat} : (Builtin.zeroCells z n).size = n * z.size := by simp [Builtin.zeroCells]

end
end Go.Ev

/- The evaluator's append and copy are the model's; no theorem of the program yet; no conditions. -/
namespace Go.Ev
section
variable {ρ : Env} {μ : Mu} {P : Program} {pc : PC} {w : World}

theorem appendA_spec {ts : Array TypeId} {us : Array Value} {t tx e ty : TypeId} {dx : TypeDesc} {te : TI} {h h' : H} {s x v : AV} {sv xv : Value} (hp : pc.holds ρ) (R : Rel ρ μ h.get h.next w)
    (h0 : ts[0]? = some t) (h1 : ts[1]? = some tx) (h2 : us[0]? = some sv) (h3 : us[1]? = some xv) (ht : P.underlying t = some (.slice e)) (hx : P.underlying tx = some dx) (hni : (∃ k, dx = .slice k) ∨ dx = .string)
    (he : tinfo P e = some te) (he1 : 1 ≤ te.size) (hez : te.zero.length = te.size) (hs : VR ρ μ s sv) (hxv : VR ρ μ x xv) (hr : appendA pc h e te s x = .ok (v, h')) :
    ∃ y w' μ', (Builtin.append_ ts ty us).run P w = .ok y w' ∧ Rel ρ μ' h'.get h'.next w' ∧ Stp μ h.get h.next w μ' h'.get w' ∧ VR ρ μ' v y := by
  unfold appendA at hr
  obtain ⟨n, hn, hr1⟩ := Res.bind_eq_ok hr
  obtain ⟨new, hnew, hr2⟩ := Res.bind_eq_ok hr1
  clear hr hr1
  have hlen : ∀ w, (Builtin.lenOf xv).run P w = .ok n w := fun w => lenOfA_spec hxv hn
  obtain ⟨news, hf, hnv, hnl⟩ := firstA_spec (P := P) hp R hxv hn (Nat.le_refl _) hnew
  obtain ⟨news', hf', hnv', hnl'⟩ := firstA_spec (P := P) hp R.drew hxv hn (Nat.le_refl _) hnew
  have hnewl := VRs_length hnv
  split at hr2
  · rw [VR] at hs
    subst hs
    rcases cond_eq hr2 with ⟨h4, h5⟩ | ⟨h4, h5⟩
    · cases h5
      have := beq_eq h4
      subst this
      exact ⟨_, w, μ, app_room (w' := w) h0 h1 h2 h3 ht hx hni hlen he hf (by omega) (fun a ha => by cases ha) (fun _ => rfl), R, Stp.refl _ _ _ _, by rw [VR]⟩
    · have hn0 : n ≠ 0 := fun e => by subst e; simp at h4
      rcases cond_eq h5 with ⟨h6, h7⟩ | ⟨_, h7⟩
      · cases h7
        simp only [Bool.and_eq_true] at h6
        have b1 : n * te.bytes ≤ 140737488355328 := by simpa using h6.1
        have b2 : n ≤ 140737488355328 := by simpa using h6.2
        obtain ⟨cap, z, a1, a2, a3⟩ := app_grow (ρ := ρ) (μ := μ) (ty := ty) (olds := []) h0 h1 h2 h3 ht hx hni hlen he (by simp [Builtin.firstCells]) hf' (by omega) (by simpa using b1) (by omega)
        simp only [Array.empty_append, List.nil_append, Nat.zero_add] at a1 a2
        obtain ⟨μ', r1, r2, r3⟩ := R.open (e := e) (rest := Builtin.zeroCells z (cap - n)) hnv'
        refine ⟨_, _, μ', by simpa using a1, by rw [H.get_new, H.next_new]; exact r1, by rw [H.get_new]; exact r2, ?_⟩
        rw [VR]
        refine ⟨_, cap, r3, rfl, (fun e => by cases e), a2, Nat.le_refl _, ?_⟩
        have hz := VRs_size a3
        simp only [Array.size_append, List.size_toArray, zeroCells_size, hnl', ← hz, hez, Nat.zero_add]
        rw [← Nat.add_mul]
        exact Nat.mul_le_mul_right _ (by omega)
      · cases h7
  · rename_i id off len ex cap es
    rcases cond_eq hr2 with ⟨h4, h5⟩ | ⟨_, h5⟩
    · have hes := beq_eq h4
      have hs0 := hs
      rw [VR] at hs
      obtain ⟨p, c, hpid, rfl, g1, g2, g3, g4⟩ := hs
      have nothing : n = 0 → ∃ y w' μ', (Builtin.append_ ts ty us).run P w = .ok y w' ∧ Rel ρ μ' h.get h.next w' ∧ Stp μ h.get h.next w μ' h.get w' ∧ VR ρ μ' (.slc id off len ex cap es) y := by
        intro e0
        subst e0
        have : news = [] := List.eq_nil_of_length_eq_zero (by omega)
        subst this
        exact ⟨_, w, μ, app_room (w' := w) h0 h1 h2 h3 ht hx hni hlen he hf (by omega) (fun a ha => by simp [storeCells]) (fun _ => rfl), R, Stp.refl _ _ _ _, hs0⟩
      rcases cond_eq h5 with ⟨h6, h7⟩ | ⟨h6, h7⟩
      · have h6 : len + n ≤ cap := by simpa using h6
        rcases cond_eq h7 with ⟨h8, h9⟩ | ⟨_, h9⟩
        · cases h9
          exact nothing (beq_eq h8)
        · obtain ⟨h'', h10, h11⟩ := Res.bind_eq_ok h9
          cases h11
          obtain ⟨p', cc, e', w', q1, q2, q3, q4, q5, q6, q7, q8, q9, q10⟩ := wr_spec (P := P) R hnv h10
          rw [hpid] at q1
          cases q1
          refine ⟨_, w', μ, app_room (w' := w') h0 h1 h2 h3 ht hx hni hlen he hf (by omega) ?_ (fun h => by cases h), by rw [q8]; exact q9, q10, ?_⟩
          · intro a ha
            cases ha
            rw [addr_add, q2, Nat.zero_add, ← hes]
            exact q7
          · rw [VR]
            exact ⟨p, c, hpid, rfl, g1, g2, h6, g4⟩
      · have h6 : ¬ (len + n ≤ cap) := by have : ¬ (Nat.ble (len + n) cap = true) := by simp [h6]
                                          simpa using this
        rcases cond_eq h7 with ⟨h8, h9⟩ | ⟨_, h9⟩
        · simp only [Bool.and_eq_true] at h8
          have b1 : (len + n) * te.bytes ≤ 140737488355328 := by simpa using h8.1
          have b2 : len + n ≤ 140737488355328 := by simpa using h8.2
          rcases cond_eq h9 with ⟨h10, h11⟩ | ⟨h10, h11⟩
          · subst h10
            have := g1 rfl
            subst this
            obtain ⟨old, h12, h13⟩ := Res.bind_eq_ok h11
            cases h13
            obtain ⟨olds, o1, o2, o3⟩ := firstA_spec (P := P) (size := te.size) (n := len) (a := .slc id off len true c es) hp R.drew hs0 rfl (Nat.le_refl _) (by simp only [firstA]; rw [← hes]; exact h12)
            obtain ⟨cap', z, a1, a2, a3⟩ := app_grow (ρ := ρ) (μ := μ) (ty := ty) h0 h1 h2 h3 ht hx hni hlen he o1 hf' (by omega) b1 b2
            obtain ⟨μ', r1, r2, r3⟩ := R.open (e := e) (rest := Builtin.zeroCells z (cap' - (len + n))) (VRs_append o2 hnv')
            refine ⟨_, _, μ', by simpa using a1, by rw [H.get_new, H.next_new]; simpa using r1, by rw [H.get_new]; simpa using r2, ?_⟩
            rw [VR]
            refine ⟨_, cap', r3, rfl, (fun e => by cases e), a2, Nat.le_refl _, ?_⟩
            have hz := VRs_size a3
            simp only [Array.size_append, List.size_toArray, List.length_append, zeroCells_size, hnl', o3, ← hz, hez, Nat.zero_add, hes]
            rw [← Nat.add_mul, ← Nat.add_mul]
            exact Nat.mul_le_mul_right _ (by omega)
          · subst h10
            rcases cond_eq h11 with ⟨h12, h13⟩ | ⟨_, h13⟩
            · cases h13
              exact nothing (beq_eq h12)
            · split at h13
              · rename_i ety m vals hb
                rcases cond_eq h13 with ⟨h14, h15⟩ | ⟨_, h15⟩
                · cases h15
                  simp only [Bool.and_eq_true] at h14
                  obtain ⟨⟨⟨d1, d2⟩, d3⟩, d4⟩ := h14
                  have d1 := beq_eq d1
                  have d2 : len * es ≤ m := by simpa using d2
                  have d3 := beq_eq d3
                  subst d1; subst d3
                  obtain ⟨p', o, hp', ho, cc, e', fr, rfl, f1, f2, f3, f4⟩ := R.blk _ _ hb
                  rw [hpid] at hp'
                  cases hp'
                  obtain ⟨f5, rfl, rfl, _⟩ := f3 rfl
                  have hone := VRs_one hnv d4
                  rw [f5, Nat.zero_add] at f2
                  have g4 : c * es ≤ cc.size := by rw [f5, f1] at g4; omega
                  have hcl : cc.toList.length = cc.size := Array.length_toList
                  by_cases hroom : len + n ≤ c
                  · have hfit : len * es + news.length ≤ cc.size := by
                      have : (len + n) * es ≤ c * es := Nat.mul_le_mul_right _ hroom
                      rw [Nat.add_mul] at this
                      rw [hnl, ← hes]; omega
                    have hst := run_storeCells_at (P := P) p.1 (len * es) e' news 0 cc w ho (by omega) hone
                    simp only [Nat.add_zero] at hst
                    have hB : BR ρ μ p (.cells true true e' (len * es + new.length) (vals.puts (len * es) new)) (.cells (cc.toList.take (len * es) ++ news ++ cc.toList.drop (len * es + news.length)).toArray e' (0, 0)) := by
                      refine ⟨_, e', (0, 0), rfl, by rw [laid_size hfit]; exact f1, by rw [laid_size hfit, f5]; omega, fun _ => ⟨f5, rfl, rfl, fun hh => by cases hh⟩, ?_⟩
                      intro j u hj hju
                      rw [f5, Nat.zero_add, laid_get hfit]
                      rw [T.get_puts] at hju
                      by_cases hin : len * es ≤ j ∧ j < len * es + new.length
                      · rw [if_pos hin] at hju
                        rw [if_pos (by omega)]
                        exact VRs_get hnv _ _ hju
                      · rw [if_neg hin] at hju
                        rw [if_neg (by omega)]
                        have := f4 j u (by omega) hju
                        rwa [f5, Nat.zero_add] at this
                    obtain ⟨R1, S1⟩ := R.replace (w' := w.setRow p.1 _) hb rfl (b' := .cells true true e' (len * es + new.length) (vals.puts (len * es) new)) rfl hpid (setRow_size w p.1 _) (fun k hk => setRow_other w p.1 k _ hk) (setRow_heap _ _ cc _ _ _ ho) hB rfl rfl rfl (setRow_fz _ _ _)
                    obtain ⟨R2, S2⟩ := R1.rename (id := id) (b := .cells true true e' (len * es + new.length) (vals.puts (len * es) new)) (by simp [upd]) hpid
                    have hget : ((h.del id).new (.cells true true e' (len * es + new.length) (vals.puts (len * es) new))).get = upd (upd (upd h.get id (some (.cells true true e' (len * es + new.length) (vals.puts (len * es) new)))) id none) h.next (some (.cells true true e' (len * es + new.length) (vals.puts (len * es) new))) := by
                      rw [H.get_new, H.get_del]
                      funext j
                      simp only [upd, H.next_del]
                      by_cases q1 : j = h.next
                      · simp [q1]
                      · by_cases q2 : j = id
                        · simp [q2]
                        · simp [q1, q2]
                    refine ⟨_, _, _, app_room (w' := w.setRow p.1 _) h0 h1 h2 h3 ht hx hni hlen he hf hroom ?_ (fun h => by cases h), by rw [hget]; exact R2, by rw [hget]; exact Stp.trans S1 S2 (Nat.le_refl _), ?_⟩
                    · intro a ha
                      cases ha
                      rw [addr_add, f5, ← hes]
                      simpa using hst
                    · rw [VR]
                      refine ⟨p, c, by simp [upd], by rw [f5], (fun e => by cases e), hroom, Nat.le_refl _, ?_⟩
                      rw [f5, f1]; omega
                  · have holds : (Builtin.firstCells te.size len (.slice (some ⟨p.1, p.2.1 + 0, none⟩) len c)).run P w.drew = .ok (cc.toList.take (len * es)).toArray w.drew := by
                      have := run_loadCells_list (P := P) w.drew ⟨p.1, p.2.1 + 0, none⟩ (cc.toList.take (len * es)) (fun j x hx => by
                        rw [addr_add, cell_at (w := w.drew) ho, f5]
                        simp only [Nat.zero_add]
                        rw [List.getElem?_take] at hx
                        split at hx
                        · rw [Array.getElem?_toList] at hx; exact hx
                        · cases hx)
                      rw [List.length_take, hcl, Nat.min_eq_left (by omega)] at this
                      simp only [Builtin.firstCells, ← hes]
                      exact this
                    obtain ⟨cap', z, a1, a2, a3⟩ := app_grow (ρ := ρ) (μ := μ) (ty := ty) h0 h1 h2 h3 ht hx hni hlen he holds hf' (by omega) b1 b2
                    obtain ⟨R1, S1⟩ := R.del id
                    have hle : μ.le (upd μ h.next (some (w.heap.size, 0, ((cc.toList.take (len * es)).toArray ++ news'.toArray ++ Builtin.zeroCells z (cap' - (len + n))).size))) := by
                      intro j q hj
                      unfold upd
                      split
                      · rename_i e; subst e; rw [R.none_next] at hj; cases hj
                      · exact hj
                    have hnewl' := VRs_length hnv'
                    have htl : (cc.toList.take (len * es)).length = len * es := by simp; omega
                    have hB : BR ρ (upd μ h.next (some (w.heap.size, 0, ((cc.toList.take (len * es)).toArray ++ news'.toArray ++ Builtin.zeroCells z (cap' - (len + n))).size))) (w.heap.size, 0, ((cc.toList.take (len * es)).toArray ++ news'.toArray ++ Builtin.zeroCells z (cap' - (len + n))).size)
                        (.cells true true e' (len * es + new.length) (vals.puts (len * es) new)) (.cells ((cc.toList.take (len * es)).toArray ++ news'.toArray ++ Builtin.zeroCells z (cap' - (len + n))) e' (0, 0)) := by
                      refine ⟨_, e', (0, 0), rfl, rfl, by simp; omega, fun _ => ⟨rfl, rfl, rfl, fun hh => by cases hh⟩, ?_⟩
                      intro j u hj hju
                      rw [T.get_puts] at hju
                      simp only [Nat.zero_add]
                      rw [Array.getElem?_append_left (by simp; omega)]
                      by_cases hin : len * es ≤ j ∧ j < len * es + new.length
                      · rw [if_pos hin] at hju
                        obtain ⟨y, y1, y2⟩ := VRs_get hnv' _ _ hju
                        refine ⟨y, ?_, VR_mono hle y2⟩
                        rw [Array.getElem?_append_right (by simp; omega)]
                        simp only [List.size_toArray, htl]
                        simpa using y1
                      · rw [if_neg hin] at hju
                        obtain ⟨y, y1, y2⟩ := f4 j u (by omega) hju
                        refine ⟨y, ?_, VR_mono hle y2⟩
                        rw [f5, Nat.zero_add] at y1
                        rw [Array.getElem?_append_left (by simp; omega), List.getElem?_toArray, List.getElem?_take, if_pos (by omega), Array.getElem?_toList]
                        exact y1
                    obtain ⟨R2, S2⟩ := R1.alloc (w' := w.drew.alloc (.cells ((cc.toList.take (len * es)).toArray ++ news'.toArray ++ Builtin.zeroCells z (cap' - (len + n))) e')) R.none_next (Nat.le_refl _) (Nat.lt_succ_self _) (Nat.le_succ _) (by simp)
                      (fun k hk => heap_alloc_old w.drew _ k hk) (heap_alloc_new w.drew _) hB rfl rfl rfl (fun a _ => RowKit.frozen?_alloc_cells w.drew _ _ a)
                    have hget : ((h.del id).new (.cells true true e' (len * es + new.length) (vals.puts (len * es) new))).get = upd (upd h.get id none) h.next (some (.cells true true e' (len * es + new.length) (vals.puts (len * es) new))) := by
                      rw [H.get_new, H.get_del]; rfl
                    refine ⟨_, _, _, a1, by rw [hget]; exact R2, by rw [hget]; exact Stp.trans S1 S2 (Nat.le_refl _), ?_⟩
                    rw [VR]
                    refine ⟨_, cap', by simp only [upd, if_true]; rfl, rfl, (fun e => by cases e), a2, Nat.le_refl _, ?_⟩
                    have hz := VRs_size a3
                    simp only [Array.size_append, List.size_toArray, zeroCells_size, hnl', ← hz, hez, Nat.zero_add, hes]
                    rw [hes] at htl
                    rw [htl]
                    rw [← Nat.add_mul, ← Nat.add_mul]
                    exact Nat.mul_le_mul_right _ (by omega)
                · cases h15
              · cases h13
        · cases h9
    · cases h5
  · cases hr2

theorem first0 {size m : Nat} {a : AV} {v : Value} (hv : VR ρ μ a v) (hm : lenOfA a = .ok m) : (Builtin.firstCells size 0 v).run P w = .ok #[] w := by
  have hl : ∀ ad, (loadCells ad 0).run P w = .ok #[] w := fun ad => by simpa using run_loadCells_list (P := P) w ad [] (by simp)
  unfold lenOfA at hm
  split at hm
  · rw [VR] at hv; obtain ⟨_, _, _, rfl, _⟩ := hv; simp [Builtin.firstCells, hl]
  · rw [VR] at hv; subst hv; simp [Builtin.firstCells]
  · rw [VR] at hv; obtain ⟨_, _, rfl⟩ := hv; simp [Builtin.firstCells, hl]
  · rw [VR] at hv; obtain ⟨s, rfl, _⟩ := hv; simp [Builtin.firstCells]
  · cases hm

theorem copy_run {ts : Array TypeId} {us : Array Value} {t e ty : TypeId} {te : TI} {base : Option Addr} {x : Value} {dLen dCap n m : Nat} {news : List Value} {w' : World}
    (h0 : ts[0]? = some t) (h2 : us[0]? = some (.slice base dLen dCap)) (h3 : us[1]? = some x) (ht : P.underlying t = some (.slice e)) (he : tinfo P e = some te) (hl : (Builtin.lenOf x).run P w = .ok n w) (hm : Nat.min n dLen = m)
    (hn : (Builtin.firstCells te.size m x).run P w = .ok news.toArray w) (hst : ∀ a, base = some a → (storeCells a news).run P w = .ok () w') (hno : base = none → w' = w) :
    (Builtin.copy_ ts ty us).run P w = .ok (goInt m) w' := by
  cases base with
  | none =>
    rw [hno rfl]
    simp [Builtin.copy_, h0, h2, h3, run_und ht, run_size he, hl, hm, hn]
  | some a =>
    have := hst a rfl
    simp [Builtin.copy_, h0, h2, h3, run_und ht, run_size he, hl, hm, hn, this]

theorem copyA_spec {ts : Array TypeId} {us : Array Value} {t e ty : TypeId} {te : TI} {h h' : H} {d x : AV} {r : Option AV} {dv xv : Value} {n : Nat} (hp : pc.holds ρ) (R : Rel ρ μ h.get h.next w)
    (h0 : ts[0]? = some t) (h2 : us[0]? = some dv) (h3 : us[1]? = some xv) (ht : P.underlying t = some (.slice e)) (he : tinfo P e = some te) (hd : VR ρ μ d dv) (hxv : VR ρ μ x xv) (hn : lenOfA x = .ok n)
    (hr : copyA pc h te.size n x d = .ok (r, h')) :
    ∃ y w', (Builtin.copy_ ts ty us).run P w = .ok y w' ∧ Rel ρ μ h'.get h'.next w' ∧ Stp μ h.get h.next w μ h'.get w' ∧ ∀ b, r = some b → VR ρ μ b y := by
  have hl := lenOfA_spec (P := P) (w := w) hxv hn
  unfold copyA at hr
  split at hr
  · cases hr
    rw [VR] at hd
    subst hd
    exact ⟨_, w, copy_run (m := 0) (news := []) h0 h2 h3 ht he hl (Nat.min_zero n) (first0 hxv hn) (fun a ha => by cases ha) (fun _ => rfl), R, Stp.refl _ _ _ _, fun b hb => by cases hb; rw [VR]; rfl⟩
  · cases hr
    rw [VR] at hd
    obtain ⟨ad, c, rfl⟩ := hd
    exact ⟨_, w, copy_run (m := 0) (news := []) h0 h2 h3 ht he hl (Nat.min_zero n) (first0 hxv hn) (fun a ha => by simp [storeCells]) (fun _ => rfl), R, Stp.refl _ _ _ _, fun b hb => by cases hb; rw [VR]; rfl⟩
  · rename_i id off len ex cap es
    rcases cond_eq hr with ⟨h4, h5⟩ | ⟨_, h5⟩
    · have hes := beq_eq h4
      simp only [min_ble] at h5
      obtain ⟨new, h6, h7⟩ := Res.bind_eq_ok h5
      obtain ⟨news, hf, hnv, hnl⟩ := firstA_spec (P := P) hp R hxv hn (Nat.min_le_left n len) h6
      rw [VR] at hd
      obtain ⟨p, c, hpid, rfl, _⟩ := hd
      rcases cond_eq h7 with ⟨h8, h9⟩ | ⟨_, h9⟩
      · cases h9
        have h8 := beq_eq h8
        rw [h8] at hf hnl
        have : news = [] := List.eq_nil_of_length_eq_zero (by omega)
        subst this
        exact ⟨_, w, copy_run (m := 0) (news := []) h0 h2 h3 ht he hl h8 hf (fun a ha => by simp [storeCells]) (fun h => by cases h), R, Stp.refl _ _ _ _, fun b hb => by cases hb; rw [VR]; rfl⟩
      · obtain ⟨h'', h10, h11⟩ := Res.bind_eq_ok h9
        cases h11
        obtain ⟨p', cc, e', w', q1, q2, q3, q4, q5, q6, q7, q8, q9, q10⟩ := wr_spec (P := P) R hnv h10
        rw [hpid] at q1
        cases q1
        refine ⟨_, w', copy_run (m := min n len) (w' := w') h0 h2 h3 ht he hl rfl hf ?_ (fun h => by cases h), by rw [q8]; exact q9, q10, fun b hb => by cases hb; rw [VR]; rfl⟩
        intro a ha
        cases ha
        rw [q2, Nat.zero_add]
        exact q7
    · cases h5
  · cases hr

/-! ### All of them -/
theorem seq_of {d : TypeDesc} (h : (tdOf d).seq = true) : (∃ k, d = .slice k) ∨ d = .string := by
  cases d <;> first
    | (simp only [tdOf, TD.seq] at h; cases h; done)
    | exact .inl ⟨_, rfl⟩
    | exact .inr rfl

theorem zerosA_spec {ts : Array TypeId} {us : Array Value} {t tx e ty : TypeId} {kx : IntKind} {te : TI} {h h' : H} {s x : AV} {r : Option AV} {sv xv : Value} (hp : pc.holds ρ) (R : Rel ρ μ h.get h.next w)
    (h0 : ts[0]? = some t) (h1 : ts[1]? = some tx) (h2 : us[0]? = some sv) (h3 : us[1]? = some xv) (ht : P.underlying t = some (.slice e)) (hx : P.underlying tx = some (.int kx))
    (he : tinfo P e = some te) (hs : VR ρ μ s sv) (hxv : VR ρ μ x xv) (hr : zerosA pc h e te s x = .ok (r, h')) :
    ∃ y w' μ', (Builtin.append_ ts ty us).run P w = .ok y w' ∧ Rel ρ μ' h'.get h'.next w' ∧ Stp μ h.get h.next w μ' h'.get w' ∧ ∀ b, r = some b → VR ρ μ' b y := by
  unfold zerosA at hr
  split at hr
  · obtain ⟨⟨kd, n'⟩, h4, h5⟩ := Res.bind_eq_ok hr
    split at h5
    · rename_i n hn
      simp only at hn
      subst hn
      rcases cond_eq h5 with ⟨h6, h7⟩ | ⟨_, h7⟩
      · cases h7
        simp only [Bool.and_eq_true] at h6
        obtain ⟨c1, c2, c3, c4, c5⟩ := h6
        have c1 : 1 ≤ n := by simpa using c1
        have c2 : n * te.bytes ≤ 140737488355328 := by simpa using c2
        have c3 : n ≤ 140737488355328 := by simpa using c3
        have c4 : 1 ≤ te.size := by simpa using c4
        have c5 := beq_eq c5
        have hkey := keyA_spec hp hxv h4
        subst hkey
        rw [VR] at hs
        subst hs
        obtain ⟨cap, z, a1, a2, a3⟩ := app_zeros (ρ := ρ) (μ := μ) (ty := ty) h0 h1 h2 h3 ht hx he c4 c1 c2 c3
        have hz := VRs_size a3
        have hrep : VRs ρ μ (repA te.zero n) (Builtin.zeroCells z n).toList := repA_VRs a3 (by rw [hz])
        obtain ⟨μ', r1, r2, r3⟩ := R.open (e := e) (rest := Builtin.zeroCells z (cap - n)) hrep
        refine ⟨_, _, μ', by simpa using a1, by rw [H.get_new, H.next_new]; exact r1, by rw [H.get_new]; exact r2, fun b hb => ?_⟩
        cases hb
        rw [VR]
        refine ⟨_, cap, r3, rfl, (fun e => by cases e), a2, Nat.le_refl _, ?_⟩
        simp only [Array.size_append, zeroCells_size, ← hz, c5, Nat.zero_add, Array.toArray_toList]
        rw [← Nat.add_mul]
        exact Nat.mul_le_mul_right _ (by omega)
      · cases h7
    · cases h5
  · cases hr

theorem heap_call_spec (hp : pc.holds ρ) {h h' : H} {o : Oper} {c : Call} (ho : o.op = .call c) {ea : Operand → Res AV} {rv : Operand → Value} {f : H → Res (Option AV × H)} {r : Option AV} (R : Rel ρ μ h.get h.next w)
    (he : EaR ρ μ o.op ea rv) (hc : clsCall P pc ea c = .heap f) (hr : f h = .ok (r, h')) : Done ρ μ h.get h.next w h'.get h'.next r ((execOp rv o).run P w) := by
  rw [ho] at he
  unfold clsCall at hc
  split at hc
  · rename_i b hb
    have ha : ∀ {vs : List AV}, argsA ea c.args.toList = .ok vs → VRs ρ μ vs (c.args.map rv).toList := by
      intro vs h1
      rw [Array.toList_map]
      exact argsA_spec (fun x hx a h => he x (by simp only [Op.operands, Call.operands]; exact Array.mem_append.2 (.inr (by simpa using hx))) a h) h1
    have two : ∀ {s x : AV}, VRs ρ μ [s, x] (c.args.map rv).toList → ∃ u v, (c.args.map rv)[0]? = some u ∧ (c.args.map rv)[1]? = some v ∧ VR ρ μ s u ∧ VR ρ μ x v := by
      intro s x h
      simp only [VRs_cons] at h
      obtain ⟨u, l, h1, h2, v, l', h3, h4, _⟩ := h
      subst h3
      exact ⟨u, v, by rw [← Array.getElem?_toList, h1]; rfl, by rw [← Array.getElem?_toList, h1]; rfl, h2, h4⟩
    unfold clsB at hc
    split at hc
    · cases hc
    · cases hc
    · cases hc
    · cases hc
    · injection hc with hc
      subst hc
      obtain ⟨vs, h1, h2⟩ := Res.bind_eq_ok hr
      have hvs := ha h1
      unfold aAppend at h2
      split at h2
      · rename_i s x t tx _ hts
        obtain ⟨u, v, h3, h4, h5, h6⟩ := two hvs
        obtain ⟨ti, h7, h8⟩ := Res.bind_eq_ok h2
        obtain ⟨tix, h9, h10⟩ := Res.bind_eq_ok h8
        split at h10
        · rename_i e hd
          obtain ⟨te, h11, h12⟩ := Res.bind_eq_ok h10
          rcases cond_eq h12 with ⟨hz, h12⟩ | ⟨_, h12⟩
          · obtain ⟨kx, hkx⟩ := isIntD_td hz
            have t0 : c.argTypes[0]? = some t := by rw [← Array.getElem?_toList, hts]; rfl
            have t1 : c.argTypes[1]? = some tx := by rw [← Array.getElem?_toList, hts]; rfl
            obtain ⟨y, w', μ', r1, r2, r3, r4⟩ := zerosA_spec (P := P) (ty := o.type) hp R t0 t1 h3 h4 (td_slc (tdR_spec h7) hd) (td_int (tdR_spec h9) hkx) (tdR_spec h11) h5 h6 h12
            refine ⟨y, w', μ', .inl ?_, r2, r3, r4⟩
            simp only [execOp, ho, resolve, hb, Sem.run_bind, Sem.run_pure, Result.andThen_ok, invoke, builtin, r1]
          rcases cond_eq h12 with ⟨h13, h14⟩ | ⟨_, h14⟩
          · obtain ⟨⟨v', h''⟩, h15, h16⟩ := Res.bind_eq_ok h14
            cases h16
            simp only [Bool.and_eq_true] at h13
            obtain ⟨_, dx, _, _, k1, _, k2, _⟩ := tinfo_spec (tdR_spec h9)
            have t0 : c.argTypes[0]? = some t := by rw [← Array.getElem?_toList, hts]; rfl
            have t1 : c.argTypes[1]? = some tx := by rw [← Array.getElem?_toList, hts]; rfl
            obtain ⟨y, w', μ', r1, r2, r3, r4⟩ := appendA_spec (P := P) (ty := o.type) hp R t0 t1 h3 h4 (td_slc (tdR_spec h7) hd) k1 (seq_of (by rw [← k2]; exact h13.2.2)) (tdR_spec h11) (by simpa using h13.1) (beq_eq h13.2.1) h5 h6 h15
            refine ⟨y, w', μ', .inl ?_, r2, r3, fun a ha => by cases ha; exact r4⟩
            simp only [execOp, ho, resolve, hb, Sem.run_bind, Sem.run_pure, Result.andThen_ok, invoke, builtin, r1]
          · cases h14
        · cases h10
      · cases h2
    · injection hc with hc
      subst hc
      obtain ⟨vs, h1, h2⟩ := Res.bind_eq_ok hr
      have hvs := ha h1
      unfold aCopy at h2
      split at h2
      · rename_i s x t _ hts
        obtain ⟨u, v, h3, h4, h5, h6⟩ := two hvs
        obtain ⟨ti, h7, h8⟩ := Res.bind_eq_ok h2
        split at h8
        · rename_i e hd
          obtain ⟨te, h11, h12⟩ := Res.bind_eq_ok h8
          obtain ⟨n, h13, h14⟩ := Res.bind_eq_ok h12
          have t0 : c.argTypes[0]? = some t := by rw [← Array.getElem?_toList, hts]; rfl
          obtain ⟨y, w', r1, r2, r3, r4⟩ := copyA_spec (P := P) (ty := o.type) hp R t0 h3 h4 (td_slc (tdR_spec h7) hd) (tdR_spec h11) h5 h6 h13 h14
          refine ⟨y, w', μ, .inl ?_, r2, r3, r4⟩
          simp only [execOp, ho, resolve, hb, Sem.run_bind, Sem.run_pure, Result.andThen_ok, invoke, builtin, r1]
        · cases h8
      · cases h2
    · cases hc
  · cases hc

theorem heap_spec (hp : pc.holds ρ) {h h' : H} {o : Oper} {ea : Operand → Res AV} {rv : Operand → Value} {f : H → Res (Option AV × H)} {r : Option AV} (R : Rel ρ μ h.get h.next w)
    (he : EaR ρ μ o.op ea rv) (hc : cls P pc ea o.op = .heap f) (hr : f h = .ok (r, h')) : Done ρ μ h.get h.next w h'.get h'.next r ((execOp rv o).run P w) := by
  cases ho : o.op with
  | call c => rw [ho] at hc; exact heap_call_spec hp ho R he hc hr
  | store t a x =>
    rw [ho] at hc he
    have h0 : Cls.heap (fun h => (ea a).bind fun p => (ea x).bind fun v => aStore P h t v p) = .heap f := hc
    injection h0 with h0
    subst h0
    obtain ⟨p, h1, h2⟩ := Res.bind_eq_ok hr
    obtain ⟨v, h3, h4⟩ := Res.bind_eq_ok h2
    obtain ⟨w', r1, r2, r3, rfl⟩ := aStore_spec (P := P) R (he a (by simp [Op.operands]) p h1) (he x (by simp [Op.operands]) v h3) h4
    exact ⟨undef, w', μ, .inr ⟨by simp [execOp, ho, r1], rfl⟩, r2, r3, fun a ha => by cases ha⟩
  | convert s d x =>
    rw [ho] at hc he
    have h0 : clsConv P pc ea s d x = .heap f := hc
    unfold clsConv at h0
    rcases cond_eq h0 with ⟨_, h1⟩ | ⟨_, h1⟩
    · cases h1
    · injection h1 with h1
      subst h1
      obtain ⟨v, h2, h3⟩ := Res.bind_eq_ok hr
      obtain ⟨y, w', μ', r1, r2, r3, r4⟩ := aConv_spec (P := P) hp R (he x (by simp [Op.operands]) v h2) h3
      exact ⟨y, w', μ', .inl (by simp [execOp, ho, r1]), r2, r3, r4⟩
  | range t x =>
    rw [ho] at hc he
    have h0 : Cls.heap (fun h => (ea x).bind (aRange P h t)) = .heap f := hc
    injection h0 with h0
    subst h0
    obtain ⟨v, h2, h3⟩ := Res.bind_eq_ok hr
    obtain ⟨y, w', μ', r1, r2, r3, r4⟩ := aRange_spec (P := P) R (he x (by simp [Op.operands]) v h2) h3
    exact ⟨y, w', μ', .inl (by simp [execOp, ho, r1]), r2, r3, r4⟩
  | next it str =>
    rw [ho] at hc he
    cases str
    · cases hc
    · have h0 : Cls.heap (fun h => (ea it).bind (aNext h)) = .heap f := hc
      injection h0 with h0
      subst h0
      obtain ⟨v, h2, h3⟩ := Res.bind_eq_ok hr
      obtain ⟨y, w', r1, r2, r3, r4⟩ := aNext_spec (P := P) (t := o.type) R (he it (by simp [Op.operands]) v h2) h3
      exact ⟨y, w', μ, .inl (by simp [execOp, ho, r1]), r2, r3, r4⟩
  | makeMap t res =>
    rw [ho] at hc he
    have h0 : Cls.heap (fun h => aMakeMap h res) = .heap f := hc
    injection h0 with h0
    subst h0
    obtain ⟨y, w', μ', r1, r2, r3, r4⟩ := aMakeMap_spec (P := P) (t := t) (rv := rv) R hr
    exact ⟨y, w', μ', .inl (by simp [execOp, ho, r1]), r2, r3, r4⟩
  | insert t m k x =>
    rw [ho] at hc he
    have h0 : Cls.heap (fun h => (ea m).bind fun m => (ea k).bind fun k => (ea x).bind fun v => aMapUpdate P pc h t m k v) = .heap f := hc
    injection h0 with h0
    subst h0
    obtain ⟨vm, h1, h2⟩ := Res.bind_eq_ok hr
    obtain ⟨vk, h3, h4⟩ := Res.bind_eq_ok h2
    obtain ⟨vx, h5, h6⟩ := Res.bind_eq_ok h4
    obtain ⟨w', r1, r2, r3, rfl⟩ := aMapUpdate_spec (P := P) hp R (he m (by simp [Op.operands]) vm h1) (he k (by simp [Op.operands]) vk h3) (he x (by simp [Op.operands]) vx h5) h6
    exact ⟨undef, w', μ, .inr ⟨by simp [execOp, ho, r1], rfl⟩, r2, r3, fun a ha => by cases ha⟩
  | mapUpdate t m k x =>
    rw [ho] at hc he
    have h0 : Cls.heap (fun h => (ea m).bind fun m => (ea k).bind fun k => (ea x).bind fun v => aMapUpdate P pc h t m k v) = .heap f := hc
    injection h0 with h0
    subst h0
    obtain ⟨vm, h1, h2⟩ := Res.bind_eq_ok hr
    obtain ⟨vk, h3, h4⟩ := Res.bind_eq_ok h2
    obtain ⟨vx, h5, h6⟩ := Res.bind_eq_ok h4
    obtain ⟨w', r1, r2, r3, rfl⟩ := aMapUpdate_spec (P := P) hp R (he m (by simp [Op.operands]) vm h1) (he k (by simp [Op.operands]) vk h3) (he x (by simp [Op.operands]) vx h5) h6
    exact ⟨undef, w', μ, .inr ⟨by simp [execOp, ho, r1], rfl⟩, r2, r3, fun a ha => by cases ha⟩
  | lookup t m k ok =>
    rw [ho] at hc he
    have h0 : Cls.heap (fun h => (ea m).bind fun m => (ea k).bind fun k => aLookup P pc h t ok m k) = .heap f := hc
    injection h0 with h0
    subst h0
    obtain ⟨vm, h1, h2⟩ := Res.bind_eq_ok hr
    obtain ⟨vk, h3, h4⟩ := Res.bind_eq_ok h2
    obtain ⟨rfl, y, r1, r2⟩ := aLookup_spec (P := P) hp R (he m (by simp [Op.operands]) vm h1) (he k (by simp [Op.operands]) vk h3) h4
    exact Done.same R (by simp [execOp, ho, r1]) r2
  | _ => rw [ho] at hc; cases hc

theorem load_spec {h : H} {g : G} {nx : Nat} {o : Oper} {ea : Operand → Res AV} {rv : Operand → Value} {f : H → Res AV} {r : AV} (R : Rel ρ μ g nx w)
    (hb : ∀ t a id b, o.op = .load t a → ∀ p, ea a = .ok p → p.leads id → h.get id = some b → g id = some b)
    (he : EaR ρ μ o.op ea rv) (hc : cls P pc ea o.op = .load f) (hr : f h = .ok r) : ∃ y, (execOp rv o).run P w = .ok (.value y) w ∧ VR ρ μ r y := by
  cases ho : o.op with
  | load t a =>
    rw [ho] at hc he
    have h0 : Cls.load (fun h => (ea a).bind (aLoad P h t)) = .load f := hc
    injection h0 with h0
    subst h0
    obtain ⟨p, h1, h2⟩ := Res.bind_eq_ok hr
    obtain ⟨y, h3, h4⟩ := aLoad_spec (P := P) R (fun id b hl hg => hb t a id b ho p h1 hl hg) (he a (by simp [Op.operands]) p h1) h2
    exact ⟨y, by simp [execOp, ho, h3], h4⟩
  | call c =>
    rw [ho] at hc
    have h0 : clsCall P pc ea c = .load f := hc
    unfold clsCall at h0
    split at h0
    · unfold clsB at h0; split at h0 <;> cases h0
    · cases h0
  | convert s d x =>
    rw [ho] at hc
    have h0 : clsConv P pc ea s d x = .load f := hc
    unfold clsConv at h0
    rcases cond_eq h0 with ⟨_, h1⟩ | ⟨_, h1⟩ <;> cases h1
  | next it str => rw [ho] at hc; cases str <;> cases hc
  | _ => rw [ho] at hc; cases hc

end
end Go.Ev
