/- How the evaluator's heap stands for the model's, and how a step keeps that; no theorem of the program yet; no conditions. -/
import Derived.Test.YtlngklpiapbpmaaEvK
import Derived.RangeFuncIn
import Derived.LoopNIn
import Derived.DefersIn
import Derived.OrdersIn
import Derived.RowKit3
import Derived.RangeFuncRecord
set_option linter.unusedSimpArgs false
set_option linter.unusedVariables false
namespace Go.Ev

abbrev G := Nat → Option Blk
def upd {α : Type} (g : Nat → α) (id : Nat) (b : α) : Nat → α := fun j => if j = id then b else g j

theorem H.get_set (h : H) (id : Nat) (b : Blk) : (h.set id b).get = upd h.get id (some b) := by
  funext j
  show (h.tr.put id b).get j = _
  rw [T.get_put]; rfl
theorem H.get_del (h : H) (id : Nat) : (h.del id).get = upd h.get id none := by
  funext j
  show (h.tr.del id).get j = _
  rw [T.get_del]; rfl
theorem H.get_new (h : H) (b : Blk) : (h.new b).get = upd h.get h.next (some b) := by
  funext j
  show (h.tr.put h.next b).get j = _
  rw [T.get_put]; rfl
theorem H.next_set (h : H) (id : Nat) (b : Blk) : (h.set id b).next = h.next := rfl
theorem H.next_del (h : H) (id : Nat) : (h.del id).next = h.next := rfl
theorem H.next_new (h : H) (b : Blk) : (h.new b).next = h.next + 1 := rfl

section
variable {ρ : Env}

/-- A map's entries: keys that are told, values. -/
def ER (ρ : Env) (μ : Mu) : List (AV × AV) → List MapEntry → Prop
  | [], l => l = []
  | (k, v) :: r, l => ∃ e l', l = e :: l' ∧ (∃ kd n, k = .int kd (.lit n) ∧ e.key = .int kd n) ∧ VR ρ μ v e.val ∧ ER ρ μ r l'

theorem ER_mono {ρ : Env} {μ μ' : Mu} (h : μ.le μ') : ∀ {es : List (AV × AV)} {l : List MapEntry}, ER ρ μ es l → ER ρ μ' es l
  | [], _, hl => hl
  | _ :: _, _, ⟨e, l', h1, h2, h3, h4⟩ => ⟨e, l', h1, h2, VR_mono h h3, ER_mono h h4⟩

/-- A block of the evaluator's stands for an object of the model's. -/
def BR (ρ : Env) (μ : Mu) (p : Loc) : Blk → Obj → Prop
  | .cells own opn ety n vals, o => ∃ c e fr, o = .cells c e fr ∧ p.2.2 = c.size ∧ p.2.1 + n ≤ c.size ∧
      (own = true → p.2.1 = 0 ∧ fr = (0, 0) ∧ e = ety ∧ (opn = false → n = c.size)) ∧
      ∀ j v, j < n → vals.get j = some v → ∃ x, c[p.2.1 + j]? = some x ∧ VR ρ μ v x
  | .loop fn nt mask tm ps assign body st pend dfr, o => ∃ L q, o = .loop L ∧ L.params.toList = ps ∧ L.assign = assign ∧ L.body = body ∧ L.state = st ∧ L.pending = pend ∧
      μ dfr = some q ∧ L.defers = q.1 ∧ L.tmps.size = nt ∧ ∀ t v, bit mask t = true → tm.get t = some v → ∃ x, L.tmps[t]? = some x ∧ VR ρ μ v x
  | .defs, o => o = .deferred (some [])
  | .map es, o => ∃ arr clock, o = .map arr clock ∧ ER ρ μ es arr.toList
  | .siter n bs pos, o => ∃ s, o = .stringIter s pos ∧ SR ρ n bs s ∧ p.2.1 = 0

theorem BR_mono {μ μ' : Mu} (h : μ.le μ') {p : Loc} {b : Blk} {o : Obj} (hb : BR ρ μ p b o) : BR ρ μ' p b o := by
  cases b with
  | cells own opn ety n vals =>
    obtain ⟨c, e, fr, h1, h2, h3, h4, h5⟩ := hb
    exact ⟨c, e, fr, h1, h2, h3, h4, fun j v hj hv => let ⟨x, h6, h7⟩ := h5 j v hj hv; ⟨x, h6, VR_mono h h7⟩⟩
  | loop fn nt mask tm ps assign body st pend dfr =>
    obtain ⟨L, q, h1, h3, h4, h5, h6, h7, h8, h9, h10, h11⟩ := hb
    exact ⟨L, q, h1, h3, h4, h5, h6, h7, h _ _ h8, h9, h10, fun t v ht hv => let ⟨x, h6, h7⟩ := h11 t v ht hv; ⟨x, h6, VR_mono h h7⟩⟩
  | defs => exact hb
  | map es =>
    obtain ⟨arr, clock, h1, h2⟩ := hb
    exact ⟨arr, clock, h1, ER_mono h h2⟩
  | siter n bs pos => exact hb

structure Rel (ρ : Env) (μ : Mu) (g : G) (nx : Nat) (w : World) : Prop where
  blk : ∀ id b, g id = some b → ∃ p o, μ id = some p ∧ w.heap[p.1]? = some o ∧ BR ρ μ p b o
  inj : ∀ i j b b' p q, g i = some b → g j = some b' → b.own = true → i ≠ j → μ i = some p → μ j = some q → p.1 ≠ q.1
  fresh : ∀ id p, μ id = some p → id < nx
  glob : ∀ k, k < 64 → ∃ z, μ k = some (k, 0, z)

/-- What a piece of work has done. -/
structure Stp (μ : Mu) (g : G) (nx : Nat) (w : World) (μ' : Mu) (g' : G) (w' : World) : Prop where
  le : μ.le μ'
  new : ∀ id p, μ' id = some p → μ id = some p ∨ nx ≤ id
  ids : ∀ id b, g' id = some b → (∃ b', g id = some b') ∨ nx ≤ id
  size : w.heap.size ≤ w'.heap.size
  tape : w'.tape = w.tape
  os : w'.os = w.os
  output : w'.output = w.output
  frame : ∀ b, b < w.heap.size → (∀ id bk p, g id = some bk → bk.own = true → μ id = some p → p.1 ≠ b) → w'.heap[b]? = w.heap[b]?
  own : ∀ id bk p, g' id = some bk → μ' id = some p → w.heap.size ≤ p.1 ∨ ∃ id' bk' p', g id' = some bk' ∧ μ id' = some p' ∧ p'.1 = p.1 ∧ (bk.own = true → bk'.own = true)
  fz : ∀ a, a.block < w.heap.size → w'.frozen? a = w.frozen? a

theorem Stp.refl (μ : Mu) (g : G) (nx : Nat) (w : World) : Stp μ g nx w μ g w :=
  ⟨Mu.le_refl _, fun _ _ h => .inl h, fun _ b h => .inl ⟨b, h⟩, Nat.le_refl _, rfl, rfl, rfl, fun _ _ _ => rfl, fun id bk p h h' => .inr ⟨id, bk, p, h, h', rfl, fun h => h⟩, fun _ _ => rfl⟩

theorem Stp.trans {μ μ1 μ2 : Mu} {g g1 g2 : G} {nx nx1 : Nat} {w w1 w2 : World} (s : Stp μ g nx w μ1 g1 w1) (t : Stp μ1 g1 nx1 w1 μ2 g2 w2) (hn : nx ≤ nx1) : Stp μ g nx w μ2 g2 w2 where
  le := Mu.le_trans s.le t.le
  new := fun id p h => by
    rcases t.new id p h with h | h
    · exact s.new id p h
    · exact .inr (Nat.le_trans hn h)
  ids := fun id b h => by
    rcases t.ids id b h with ⟨b', h⟩ | h
    · exact s.ids id b' h
    · exact .inr (Nat.le_trans hn h)
  size := Nat.le_trans s.size t.size
  tape := t.tape.trans s.tape
  os := t.os.trans s.os
  output := t.output.trans s.output
  frame := fun b hb ho => by
    rw [t.frame b (Nat.lt_of_lt_of_le hb s.size) ?_, s.frame b hb ho]
    intro id bk p h1 h2 h3 e
    rcases s.own id bk p h1 h3 with h | ⟨id', bk', p', h4, h5, h6, h7⟩
    · omega
    · exact ho id' bk' p' h4 (h7 h2) h5 (h6.trans e)
  own := fun id bk p h h' => by
    rcases t.own id bk p h h' with h | ⟨id', bk', p', h4, h5, h6, h7⟩
    · exact .inl (Nat.le_trans s.size h)
    · rcases s.own id' bk' p' h4 h5 with h | ⟨id2, bk2, p2, h8, h9, h10, h11⟩
      · exact .inl (h6 ▸ h)
      · exact .inr ⟨id2, bk2, p2, h8, h9, h10.trans h6, fun h => h11 (h7 h)⟩
  fz := fun a ha => (t.fz a (Nat.lt_of_lt_of_le ha s.size)).trans (s.fz a ha)

theorem Stp.lower {μ μ1 : Mu} {g g1 : G} {nx nx0 : Nat} {w w1 : World} (s : Stp μ g nx w μ1 g1 w1) (h : nx0 ≤ nx) : Stp μ g nx0 w μ1 g1 w1 :=
  Stp.trans (Stp.refl μ g nx0 w) s h

theorem setRow_fz (w : World) (g : Nat) (cs : Array Value) (a : Addr) : (w.setRow g cs).frozen? a = w.frozen? a := by
  unfold World.frozen? World.setRow
  simp only [Array.getElem?_modify]
  by_cases h : g = a.block
  · rw [if_pos h]
    cases hh : w.heap[a.block]? with
    | none => rfl
    | some o => cases o <;> rfl
  · rw [if_neg h]

theorem other_fz (w : World) (o : Obj) (ho : ∀ c e fr, o ≠ .cells c e fr) (a : Addr) : (w.alloc o).frozen? a = w.frozen? a := by
  by_cases h : a.block = w.heap.size
  · have e1 : (w.alloc o).heap[a.block]? = some o := by rw [h]; exact heap_alloc_new w o
    have e2 : w.heap[a.block]? = none := by rw [h]; simp
    unfold World.frozen?
    rw [e1, e2]
    cases o <;> first | rfl | exact absurd rfl (ho _ _ _)
  · exact World.frozen?_alloc_old _ _ _ h

theorem put_fz {w : World} {r : Nat} {o o' : Obj} (hr : w.heap[r]? = some o) (ho : ∀ c e fr, o ≠ .cells c e fr) (ho' : ∀ c e fr, o' ≠ .cells c e fr) (a : Addr) : (w.putObj r o').frozen? a = w.frozen? a := by
  unfold World.frozen?
  by_cases h : a.block = r
  · have hlt := (Array.getElem?_eq_some_iff.1 hr).1
    rw [h, World.putObj_heap_same hlt, hr]
    cases o <;> first | exact absurd rfl (ho _ _ _) | (cases o' <;> first | exact absurd rfl (ho' _ _ _) | rfl)
  · rw [World.putObj_heap_other h]

theorem Rel.lt {μ : Mu} {g : G} {nx : Nat} {w : World} (R : Rel ρ μ g nx w) {id : Nat} {b : Blk} {p : Loc} (h : g id = some b) (hp : μ id = some p) : p.1 < w.heap.size := by
  obtain ⟨p', o, h1, h2, _⟩ := R.blk id b h
  rw [hp] at h1
  cases h1
  exact (Array.getElem?_eq_some_iff.1 h2).1

/-- Less is told: some blocks are not spoken of. -/
theorem Rel.sub {μ : Mu} {g g' : G} {nx nx' : Nat} {w : World} (R : Rel ρ μ g nx w) (hg : ∀ id b, g' id = some b → g id = some b) (hn : nx ≤ nx') : Rel ρ μ g' nx' w where
  blk := fun id b h => R.blk id b (hg id b h)
  inj := fun i j b b' p q h h' => R.inj i j b b' p q (hg i b h) (hg j b' h')
  fresh := fun id p h => Nat.lt_of_lt_of_le (R.fresh id p h) hn
  glob := R.glob

/-- What a step has not owned is as it was: blocks beside the step's own. -/
theorem Rel.beside {μ μ' : Mu} {g g' x : G} {nx nx' : Nat} {w w' : World} (R : Rel ρ μ x nx w) (hgx : ∀ id b, g id = some b → x id = some b)
    (S : Stp μ g nx w μ' g' w') (R' : Rel ρ μ' g' nx' w') {y : G} (hy : ∀ id b, y id = some b → g' id = some b ∨ (x id = some b ∧ g id = none)) : Rel ρ μ' y nx' w' where
  blk := fun id b h => by
    rcases hy id b h with h | ⟨h, hn⟩
    · exact R'.blk id b h
    · obtain ⟨p, o, h1, h2, h3⟩ := R.blk id b h
      refine ⟨p, o, S.le _ _ h1, ?_, BR_mono S.le h3⟩
      rw [S.frame p.1 (Array.getElem?_eq_some_iff.1 h2).1 ?_, h2]
      intro id' bk p' h4 h5 h6
      exact R.inj id' id bk b p' p (hgx _ _ h4) h h5 (fun e => by subst e; rw [hn] at h4; cases h4) h6 h1
  inj := fun i j b b' p q hi hj ho hne hp hq => by
    have old : ∀ {id : Nat} {b : Blk} {p : Loc}, x id = some b → μ' id = some p → μ id = some p := by
      intro id b p h hp
      obtain ⟨p', o, h1, _⟩ := R.blk id b h
      rw [S.le _ _ h1] at hp
      cases hp
      exact h1
    rcases hy i b hi with hi | ⟨hi, hin⟩ <;> rcases hy j b' hj with hj | ⟨hj, hjn⟩
    · exact R'.inj i j b b' p q hi hj ho hne hp hq
    · have hq0 := old hj hq
      rcases S.own i b p hi hp with h | ⟨id', bk', p', h1, h2, h3, h4⟩
      · have := R.lt hj hq0
        omega
      · intro e
        exact R.inj id' j bk' b' p' q (hgx _ _ h1) hj (h4 ho) (fun e => by subst e; rw [hjn] at h1; cases h1) h2 hq0 (h3.trans e)
    · have hp0 := old hi hp
      rcases S.own j b' q hj hq with h | ⟨id', bk', q', h1, h2, h3, h4⟩
      · have := R.lt hi hp0
        omega
      · intro e
        exact R.inj i id' b bk' p q' hi (hgx _ _ h1) ho (fun e => by subst e; rw [hin] at h1; cases h1) hp0 h2 (e.trans h3.symm)
    · exact R.inj i j b b' p q hi hj ho hne (old hi hp) (old hj hq)
  fresh := R'.fresh
  glob := R'.glob

/-- A block's object is replaced. -/
theorem Rel.replace {μ : Mu} {g : G} {nx : Nat} {w w' : World} {id : Nat} {b b' : Blk} {p : Loc} {o' : Obj} (R : Rel ρ μ g nx w) (hb : g id = some b) (ho : b.own = true) (ho' : b'.own = true) (hp : μ id = some p)
    (hs : w'.heap.size = w.heap.size) (hk : ∀ k, k ≠ p.1 → w'.heap[k]? = w.heap[k]?) (hv : w'.heap[p.1]? = some o') (hB : BR ρ μ p b' o') (h1 : w'.tape = w.tape) (h2 : w'.os = w.os) (h3 : w'.output = w.output) (h4 : ∀ a, w'.frozen? a = w.frozen? a) :
    Rel ρ μ (upd g id (some b')) nx w' ∧ Stp μ g nx w μ (upd g id (some b')) w' := by
  constructor
  · refine ⟨?_, ?_, R.fresh, R.glob⟩
    · intro j c hc
      unfold upd at hc
      split at hc
      · rename_i e; subst e; cases hc; exact ⟨p, o', hp, hv, hB⟩
      · rename_i e
        obtain ⟨q, o, h4, h5, h6⟩ := R.blk j c hc
        exact ⟨q, o, h4, by rw [hk _ (fun e' => R.inj id j b c p q hb hc ho (fun h => e h.symm) hp h4 e'.symm), h5], h6⟩
    · intro i j c c' q r hi hj hoc hne hq hr
      unfold upd at hi hj
      split at hi
      · rename_i e; subst e; cases hi
        rw [if_neg (fun h => hne h.symm)] at hj
        exact R.inj i j b c' q r hb hj ho hne hq hr
      · split at hj
        · rename_i e; subst e; cases hj
          exact R.inj i j c b q r hi hb hoc hne hq hr
        · exact R.inj i j c c' q r hi hj hoc hne hq hr
  · refine ⟨Mu.le_refl _, fun _ _ h => .inl h, ?_, by rw [hs]; exact Nat.le_refl _, h1, h2, h3, ?_, ?_, fun a _ => h4 a⟩
    · intro j c hc
      unfold upd at hc
      split at hc
      · rename_i e; subst e; exact .inl ⟨_, hb⟩
      · exact .inl ⟨_, hc⟩
    · intro k _ hno
      exact hk k (fun e => hno id b p hb ho hp e.symm)
    · intro j c q hc hq
      unfold upd at hc
      split at hc
      · rename_i e; subst e; exact .inr ⟨j, b, q, hb, hq, rfl, fun _ => ho⟩
      · exact .inr ⟨j, c, q, hc, hq, rfl, fun h => h⟩

/-- A new block. -/
theorem Rel.alloc {μ : Mu} {g : G} {nx nx0 nx' : Nat} {w w' : World} {id z : Nat} {b : Blk} {o : Obj} (R : Rel ρ μ g nx w) (hid : μ id = none) (hn0 : nx0 ≤ id) (hn : id < nx') (hnx : nx ≤ nx')
    (hs : w'.heap.size = w.heap.size + 1) (hk : ∀ k, k < w.heap.size → w'.heap[k]? = w.heap[k]?) (hv : w'.heap[w.heap.size]? = some o) (hB : BR ρ (upd μ id (some (w.heap.size, 0, z))) (w.heap.size, 0, z) b o)
    (h1 : w'.tape = w.tape) (h2 : w'.os = w.os) (h3 : w'.output = w.output) (h4 : ∀ a, a.block < w.heap.size → w'.frozen? a = w.frozen? a) :
    Rel ρ (upd μ id (some (w.heap.size, 0, z))) (upd g id (some b)) nx' w' ∧ Stp μ g nx0 w (upd μ id (some (w.heap.size, 0, z))) (upd g id (some b)) w' := by
  have hle : μ.le (upd μ id (some (w.heap.size, 0, z))) := by
    intro j p h
    unfold upd
    split
    · rename_i e; subst e; rw [hid] at h; cases h
    · exact h
  have hg : ∀ c, g id ≠ some c := fun c h => by obtain ⟨p, _, h4, _⟩ := R.blk id c h; rw [hid] at h4; cases h4
  have hmu : ∀ {j p}, j ≠ id → upd μ id (some (w.heap.size, 0, z)) j = some p → μ j = some p := by
    intro j p hj h; unfold upd at h; rwa [if_neg hj] at h
  constructor
  · refine ⟨?_, ?_, ?_, ?_⟩
    · intro j c hc
      unfold upd at hc
      split at hc
      · rename_i e; subst e; cases hc; exact ⟨(w.heap.size, 0, z), o, by simp [upd], hv, hB⟩
      · obtain ⟨q, o, h4, h5, h6⟩ := R.blk j c hc
        exact ⟨q, o, hle _ _ h4, by rw [hk _ (Array.getElem?_eq_some_iff.1 h5).1, h5], BR_mono hle h6⟩
    · intro i j c c' q r hi hj hoc hne hq hr
      unfold upd at hi hj
      split at hi
      · rename_i e; subst e; cases hi
        rw [if_neg (fun h => hne h.symm)] at hj
        have h4 := R.lt hj (hmu (fun h => hne h.symm) hr)
        simp [upd] at hq
        rw [← hq]; exact fun e => by simp only at e; omega
      · rename_i e
        have hq' := hmu e hq
        split at hj
        · rename_i e'; subst e'; cases hj
          have h4 := R.lt hi hq'
          simp [upd] at hr
          rw [← hr]; exact fun e => by simp only at e; omega
        · rename_i e'
          exact R.inj i j c c' q r hi hj hoc hne hq' (hmu e' hr)
    · intro j p h
      by_cases e : j = id
      · omega
      · exact Nat.lt_of_lt_of_le (R.fresh j p (hmu e h)) hnx
    · intro k hk
      obtain ⟨y, hy⟩ := R.glob k hk
      exact ⟨y, hle _ _ hy⟩
  · refine ⟨hle, ?_, ?_, by omega, h1, h2, h3, fun k hb _ => hk k hb, ?_, h4⟩
    · intro j p h
      by_cases e : j = id
      · exact .inr (by omega)
      · exact .inl (hmu e h)
    · intro j c hc
      unfold upd at hc
      split at hc
      · exact .inr (by omega)
      · exact .inl ⟨_, hc⟩
    · intro j c q hc hq
      by_cases e : j = id
      · subst e
        simp [upd] at hq
        rw [← hq]; exact .inl (Nat.le_refl _)
      · unfold upd at hc
        rw [if_neg e] at hc
        exact .inr ⟨j, c, q, hc, hmu e hq, rfl, fun h => h⟩

/-- A block is forgotten. -/
theorem Rel.del {μ : Mu} {g : G} {nx : Nat} {w : World} (id : Nat) (R : Rel ρ μ g nx w) : Rel ρ μ (upd g id none) nx w ∧ Stp μ g nx w μ (upd g id none) w := by
  have sub : ∀ j b, upd g id none j = some b → g j = some b := by
    intro j b h
    unfold upd at h
    split at h
    · cases h
    · exact h
  exact ⟨R.sub sub (Nat.le_refl _), Mu.le_refl _, fun _ _ h => .inl h, fun j b h => .inl ⟨b, sub j b h⟩, Nat.le_refl _, rfl, rfl, rfl, fun _ _ _ => rfl, fun j b p h h' => .inr ⟨j, b, p, sub j b h, h', rfl, fun h => h⟩, fun _ _ => rfl⟩

end
end Go.Ev
