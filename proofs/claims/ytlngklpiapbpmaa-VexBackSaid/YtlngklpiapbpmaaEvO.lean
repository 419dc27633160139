/- The evaluator's append and copy are the model's; no theorem of the program yet; no conditions. -/
import Derived.Test.YtlngklpiapbpmaaEvN
import Derived.Laws.BitsLemmas
set_option linter.unusedSimpArgs false
set_option linter.unusedVariables false
namespace Go.Ev
section
variable {ρ : Env} {μ : Mu} {P : Program} {pc : PC} {w : World} {g : G} {nx : Nat}

theorem Rel.drew (R : Rel ρ μ g nx w) : Rel ρ μ g nx w.drew := ⟨R.blk, R.inj, R.fresh, R.glob⟩

theorem lenOfA_spec {a : AV} {v : Value} {n : Nat} (hv : VR ρ μ a v) (h : lenOfA a = .ok n) : (Builtin.lenOf v).run P w = .ok n w := by
  unfold lenOfA at h
  split at h
  · cases h; rw [VR] at hv; obtain ⟨_, _, _, rfl, _⟩ := hv; rfl
  · cases h; rw [VR] at hv; subst hv; rfl
  · cases h; rw [VR] at hv; obtain ⟨_, _, rfl⟩ := hv; rfl
  · cases h; rw [VR] at hv; obtain ⟨s, rfl, hs⟩ := hv; simp [Builtin.lenOf, SR_size hs]
  · cases h

theorem firstA_spec {h : H} {size n m : Nat} {a : AV} {v : Value} {cs : List AV} (hp : pc.holds ρ) (R : Rel ρ μ h.get nx w) (hv : VR ρ μ a v) (hm : lenOfA a = .ok m) (hn : n ≤ m) (hr : firstA pc h size n a = .ok cs) :
    ∃ xs, (Builtin.firstCells size n v).run P w = .ok xs.toArray w ∧ VRs ρ μ cs xs ∧ xs.length = n * size := by
  unfold firstA at hr
  split at hr
  · rename_i id off len ex cap es
    rw [VR] at hv
    obtain ⟨p, c, hp, rfl, _⟩ := hv
    obtain ⟨p', xs, cc, e, fr, hp', ho, _, hfit, hx, hlen, hc⟩ := rd_spec R (fun b h => h) hr
    rw [hp] at hp'
    cases hp'
    have hld := run_loadCells_list (P := P) w ⟨p.1, p.2.1 + off, none⟩ xs (fun j x hx => by rw [addr_add, cell_at ho]; exact hc j x hx)
    rw [hlen] at hld
    exact ⟨xs, by simp [Builtin.firstCells, hld], hx, hlen⟩
  · cases hr
    simp only [lenOfA, Res.ok.injEq] at hm
    have : n = 0 := by omega
    subst this
    rw [VR] at hv
    subst hv
    exact ⟨[], by simp [Builtin.firstCells], VRs_nil.2 rfl, by simp⟩
  · cases hr
    simp only [lenOfA, Res.ok.injEq] at hm
    have : n = 0 := by omega
    subst this
    rw [VR] at hv
    obtain ⟨ad, c, rfl⟩ := hv
    refine ⟨[], ?_, VRs_nil.2 rfl, by simp⟩
    have := run_loadCells_list (P := P) w ad [] (by simp)
    simp only [Builtin.firstCells, Nat.zero_mul]
    simpa using this
  · rename_i k bs
    rcases cond_eq hr with ⟨h1, h2⟩ | ⟨_, h2⟩
    · cases h2
      simp only [lenOfA, Res.ok.injEq] at hm
      simp only [Bool.and_eq_true] at h1
      have hsz := beq_eq h1.2
      rw [VR] at hv
      obtain ⟨s, rfl, hs⟩ := hv
      have hz := SR_size hs
      have hby : ∀ e ∈ bs.take n, 0 ≤ e.den ρ ∧ e.den ρ ≤ 255 := fun e he => inByte_spec hp (by simpa using List.all_eq_true.1 h1.1 e he)
      refine ⟨(bs.take n).map fun e => .int .u8 (e.den ρ), ?_, ?_, ?_⟩
      · simp only [Builtin.firstCells, Sem.run_pure]
        congr 1
        apply Array.ext'
        have hd : (s.extract 0 n).data.toList = (bs.take n).map fun e => UInt8.ofNat (e.den ρ).toNat := by
          have := (SR_sub hs (Nat.zero_le n) (by omega)).2
          simpa using this
        rw [Array.toList_map, hd, List.map_map]
        apply List.map_congr_left
        intro e he
        have := hby e he
        simp only [Function.comp]
        congr 1
        simp
        omega
      · generalize bs.take n = l
        induction l with
        | nil => exact VRs_nil.2 rfl
        | cons e l ih => exact VRs_cons.2 ⟨_, _, rfl, by rw [VR], ih⟩
      · have := hs.1
        simp
        rw [hsz]
        omega
    · cases h2
  · cases hr

section conc
variable {ts : Array TypeId} {us : Array Value} {t tx e ty : TypeId} {dx : TypeDesc} {te : TI} {base : Option Addr} {x : Value} {sLen sCap n : Nat}

theorem app_grow (h0 : ts[0]? = some t) (h1 : ts[1]? = some tx) (h2 : us[0]? = some (.slice base sLen sCap)) (h3 : us[1]? = some x) (ht : P.underlying t = some (.slice e)) (hx : P.underlying tx = some dx) (hni : (∃ k, dx = .slice k) ∨ dx = .string)
    (hl : ∀ w, (Builtin.lenOf x).run P w = .ok n w) (he : tinfo P e = some te) {olds news : List Value} (ho : (Builtin.firstCells te.size sLen (.slice base sLen sCap)).run P w.drew = .ok olds.toArray w.drew)
    (hn : (Builtin.firstCells te.size n x).run P w.drew = .ok news.toArray w.drew) (hg : sCap < sLen + n) (hb : (sLen + n) * te.bytes ≤ 140737488355328) (h63 : sLen + n ≤ 140737488355328) :
    ∃ cap z, (Builtin.append_ ts ty us).run P w = .ok (.slice (some ⟨w.heap.size, 0, none⟩) (sLen + n) cap) (w.drew.alloc (.cells (olds.toArray ++ news.toArray ++ Builtin.zeroCells z (cap - (sLen + n))) e)) ∧ sLen + n ≤ cap ∧ VRs ρ μ te.zero z.toList := by
  obtain ⟨i, d, z, g1, g2, g3, g4, g5, g6, g7⟩ := tinfo_spec he
  have hng : ¬ (sLen + n ≤ sCap) := by omega
  have h63' : ¬ (9223372036854775807 < ((sLen : Int) + (n : Int))) := by omega
  have h48 := growslice_fits hg (g6 ▸ hb : (sLen + n) * i.bytes ≤ _)
  have h48' : ¬ (281474976710656 < Builtin.nextslicecap (sLen + n) sCap * i.bytes) := by omega
  refine ⟨grownCap w (sLen + n) sCap e, z.cells, ?_, grownCap_ge _ _ _ _, g7 _ _⟩
  rw [g5] at ho hn
  rcases hni with ⟨k, rfl⟩ | rfl <;>
    simp [Builtin.append_, h0, h1, h2, h3, run_und ht, run_und hx, sizeOf, typeInfo, zeroValue, g1, g3, hl, hng, h63', h48', Question.forced, ho, hn, newRow, grownCap] <;>
    (congr 2; apply Array.ext'; simp)

theorem app_zeros {kx kd : IntKind} (h0 : ts[0]? = some t) (h1 : ts[1]? = some tx) (h2 : us[0]? = some (.slice none 0 0)) (h3 : us[1]? = some (.int kd (n : Int))) (ht : P.underlying t = some (.slice e)) (hx : P.underlying tx = some (.int kx))
    (he : tinfo P e = some te) (he1 : 1 ≤ te.size) (hn : 1 ≤ n) (hb : n * te.bytes ≤ 140737488355328) (h63 : n ≤ 140737488355328) :
    ∃ cap z, (Builtin.append_ ts ty us).run P w = .ok (.slice (some ⟨w.heap.size, 0, none⟩) n cap) (w.drew.alloc (.cells (Builtin.zeroCells z n ++ Builtin.zeroCells z (cap - n)) e)) ∧ n ≤ cap ∧ VRs ρ μ te.zero z.toList := by
  obtain ⟨i, d, z, g1, g2, g3, g4, g5, g6, g7⟩ := tinfo_spec he
  have hw : IntKind.i64.wrap (n : Int) = n := by rw [IntKind.wrap_i64]; omega
  have h0' : ¬ ((n : Int) < 0) := by omega
  have hn0 : ¬ (n = 0) := by omega
  have hs0 : ¬ (i.size = 0) := by rw [← g5]; omega
  have h63' : ¬ (9223372036854775807 < (n : Int)) := by omega
  have hb' : ¬ (281474976710656 < (n : Int) * (i.bytes : Int)) := by
    have : n * i.bytes ≤ 140737488355328 := g6 ▸ hb
    have h2 : (n : Int) * (i.bytes : Int) = ((n * i.bytes : Nat) : Int) := (Int.natCast_mul _ _).symm
    rw [h2]
    omega
  have h48 := growslice_fits (need := n) (old := 0) (bytes := i.bytes) (by omega) (g6 ▸ hb)
  have h48' : ¬ (281474976710656 < Builtin.nextslicecap n 0 * i.bytes) := by omega
  refine ⟨grownCap w n 0 e, z.cells, ?_, grownCap_ge _ _ _ _, g7 _ _⟩
  simp [Builtin.append_, h0, h1, h2, h3, run_und ht, run_und hx, sizeOf, typeInfo, zeroValue, g1, g3, hw, h0', hb', hn0, hs0, h63', h48', Question.forced, newRow, grownCap, asInt, asIntOf, Builtin.firstCells]
  intro hz
  rcases Nat.mul_eq_zero.1 hz with q | q
  · exact absurd q hn0
  · exact absurd q hs0

theorem app_room (h0 : ts[0]? = some t) (h1 : ts[1]? = some tx) (h2 : us[0]? = some (.slice base sLen sCap)) (h3 : us[1]? = some x) (ht : P.underlying t = some (.slice e)) (hx : P.underlying tx = some dx) (hni : (∃ k, dx = .slice k) ∨ dx = .string)
    (hl : ∀ w, (Builtin.lenOf x).run P w = .ok n w) (he : tinfo P e = some te) {news : List Value} {w' : World}
    (hn : (Builtin.firstCells te.size n x).run P w = .ok news.toArray w) (hg : sLen + n ≤ sCap) (hst : ∀ a, base = some a → (storeCells (a.add (sLen * te.size)) news).run P w = .ok () w') (hno : base = none → w' = w) :
    (Builtin.append_ ts ty us).run P w = .ok (.slice base (sLen + n) sCap) w' := by
  obtain ⟨i, d, z, g1, g2, g3, g4, g5, g6, g7⟩ := tinfo_spec he
  rw [g5] at hn hst
  cases base with
  | none =>
    rw [hno rfl]
    rcases hni with ⟨k, rfl⟩ | rfl <;>
      simp [Builtin.append_, h0, h1, h2, h3, run_und ht, run_und hx, sizeOf, typeInfo, g1, hl, hg, hn]
  | some a =>
    have := hst a rfl
    rcases hni with ⟨k, rfl⟩ | rfl <;>
      simp [Builtin.append_, h0, h1, h2, h3, run_und ht, run_und hx, sizeOf, typeInfo, g1, hl, hg, hn, this]
end conc

theorem BR_open {p : Loc} {e : Nat} {cs : List AV} {xs : List Value} {rest : Array Value} (hv : VRs ρ μ cs xs) (hp : p.2.1 = 0) (hp2 : p.2.2 = (xs.toArray ++ rest).size) : BR ρ μ p (blkOf true e cs) (.cells (xs.toArray ++ rest) e (0, 0)) := by
  have hl := VRs_length hv
  refine ⟨_, e, (0, 0), rfl, hp2, by simp; omega, fun _ => ⟨hp, rfl, rfl, fun h => by cases h⟩, ?_⟩
  intro j v hj h
  rw [T.get_puts, if_pos (by omega), Nat.sub_zero] at h
  obtain ⟨x, h1, h2⟩ := VRs_get hv _ _ h
  refine ⟨x, ?_, h2⟩
  rw [hp, Nat.zero_add, Array.getElem?_append_left (by simp; omega)]
  simpa using h1

theorem Rel.rename {id : Nat} {b : Blk} {p : Loc} (R : Rel ρ μ g nx w) (hb : g id = some b) (hp : μ id = some p) :
    Rel ρ (upd μ nx (some p)) (upd (upd g id none) nx (some b)) (nx + 1) w ∧ Stp μ g nx w (upd μ nx (some p)) (upd (upd g id none) nx (some b)) w := by
  have hid : μ nx = none := by
    cases hm : μ nx with
    | none => rfl
    | some p => have := R.fresh _ _ hm; omega
  have hle : μ.le (upd μ nx (some p)) := by
    intro j q h
    unfold upd
    split
    · rename_i e; subst e; rw [hid] at h; cases h
    · exact h
  have hmu : ∀ {j q}, j ≠ nx → upd μ nx (some p) j = some q → μ j = some q := by
    intro j q hj h; unfold upd at h; rwa [if_neg hj] at h
  have hg : ∀ {j c}, j ≠ nx → upd (upd g id none) nx (some b) j = some c → j ≠ id ∧ g j = some c := by
    intro j c hj h
    unfold upd at h
    rw [if_neg hj] at h
    split at h
    · cases h
    · rename_i e; exact ⟨e, h⟩
  have hnew : ∀ {c}, upd (upd g id none) nx (some b) nx = some c → c = b := by intro c h; simp [upd] at h; exact h.symm
  have hmn : ∀ {q}, upd μ nx (some p) nx = some q → q = p := by intro q h; simp [upd] at h; exact h.symm
  constructor
  · refine ⟨?_, ?_, ?_, ?_⟩
    · intro j c hc
      by_cases e : j = nx
      · subst e
        rw [hnew hc]
        obtain ⟨q, o, h1, h2, h3⟩ := R.blk id b hb
        rw [hp] at h1; cases h1
        exact ⟨p, o, by simp [upd], h2, BR_mono hle h3⟩
      · obtain ⟨q, o, h1, h2, h3⟩ := R.blk j c (hg e hc).2
        exact ⟨q, o, hle _ _ h1, h2, BR_mono hle h3⟩
    · intro i j c c' q r hi hj ho hne hq hr
      by_cases ei : i = nx
      · subst ei
        have ej : j ≠ i := fun h => hne h.symm
        rw [hmn hq]
        rw [hnew hi] at ho
        exact R.inj id j b c' p r hb (hg ej hj).2 ho (fun h => (hg ej hj).1 h.symm) hp (hmu ej hr)
      · by_cases ej : j = nx
        · subst ej
          rw [hmn hr]
          exact R.inj i id c b q p (hg ei hi).2 hb ho (hg ei hi).1 (hmu ei hq) hp
        · exact R.inj i j c c' q r (hg ei hi).2 (hg ej hj).2 ho hne (hmu ei hq) (hmu ej hr)
    · intro j q h
      by_cases e : j = nx
      · omega
      · exact Nat.lt_succ_of_lt (R.fresh j q (hmu e h))
    · intro k hk
      obtain ⟨y, hy⟩ := R.glob k hk
      exact ⟨y, hle _ _ hy⟩
  · refine ⟨hle, ?_, ?_, Nat.le_refl _, rfl, rfl, rfl, fun _ _ _ => rfl, ?_, fun _ _ => rfl⟩
    · intro j q h
      by_cases e : j = nx
      · exact .inr (by omega)
      · exact .inl (hmu e h)
    · intro j c h
      by_cases e : j = nx
      · exact .inr (by omega)
      · exact .inl ⟨c, (hg e h).2⟩
    · intro j c q h hq
      by_cases e : j = nx
      · subst e
        rw [hnew h, hmn hq]
        exact .inr ⟨id, b, p, hb, hp, rfl, fun h => h⟩
      · exact .inr ⟨j, c, q, (hg e h).2, hmu e hq, rfl, fun h => h⟩

theorem Rel.none_next (R : Rel ρ μ g nx w) : μ nx = none := by
  cases hm : μ nx with
  | none => rfl
  | some p => have := R.fresh _ _ hm; omega

/-- A new open block, behind one question. -/
theorem Rel.open (R : Rel ρ μ g nx w) {e : Nat} {cs : List AV} {xs : List Value} {rest : Array Value} (hv : VRs ρ μ cs xs) :
    ∃ μ', Rel ρ μ' (upd g nx (some (blkOf true e cs))) (nx + 1) (w.drew.alloc (.cells (xs.toArray ++ rest) e)) ∧ Stp μ g nx w μ' (upd g nx (some (blkOf true e cs))) (w.drew.alloc (.cells (xs.toArray ++ rest) e)) ∧
      μ' nx = some (w.heap.size, 0, (xs.toArray ++ rest).size) := by
  have hle : μ.le (upd μ nx (some (w.heap.size, 0, (xs.toArray ++ rest).size))) := by
    intro j q h
    unfold upd
    split
    · rename_i e; subst e; rw [R.none_next] at h; cases h
    · exact h
  obtain ⟨R', S⟩ := R.alloc (w' := w.drew.alloc (.cells (xs.toArray ++ rest) e)) (z := (xs.toArray ++ rest).size) (b := blkOf true e cs) (o := .cells (xs.toArray ++ rest) e) R.none_next (Nat.le_refl _) (Nat.lt_succ_self _) (Nat.le_succ _) (by simp)
    (fun k hk => heap_alloc_old w.drew _ k hk) (heap_alloc_new w.drew _) (BR_open (VRs_mono hle hv) rfl rfl) rfl rfl rfl (fun a _ => RowKit.frozen?_alloc_cells w.drew _ _ a)
  exact ⟨_, R', S, by simp [upd]⟩

theorem zeroCells_size {z : Array Value} {n : Nat} : (Builtin.zeroCells z n).size = n * z.size := by simp [Builtin.zeroCells]

end
end Go.Ev
