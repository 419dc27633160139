/- VexReads answers 'true', whatever the slice: the cases put together; no conditions. -/
import Derived.Test.YtlngklpiapbpmaaVexB
import Derived.Test.YtlngklpiapbpmaaVexD
import Derived.Test.YtlngklpiapbpmaaVexL1
import Derived.Test.YtlngklpiapbpmaaVexL2
import Derived.Test.YtlngklpiapbpmaaChecked
set_option linter.unusedSimpArgs false
set_option linter.unusedVariables false
namespace Go.Proofs.Ytlngklpiapbpmaa
open Go.Ev
namespace Ev
section
variable {ρ : Env} {pc : PC}
theorem hmix : Try.prog.follows .mixedOrders = true := Try.checked.mixed
theorem XA_ok : HooksOK Try.prog ρ XA pc := X0_ok.with (sumTab_ok (gl := []) rfl X0_ok rfl hmix ⟨_, Try.func6, by kernel_rfl, by kernel_rfl⟩ chk6)
theorem XR_ok {n : Nat} (hp : pc.holds ρ) (hn : ρ.v 3 = n) (h3 : 3 ≤ n) : HooksOK Try.prog ρ (XR n) pc :=
  (XA_ok.with (readS_ok hp hn h3 hmix (fun _ => X0_ok) rfl ⟨_, Try.func8, by kernel_rfl, by kernel_rfl⟩ chk8)).with (readS_ok hp hn h3 hmix (fun _ => X0_ok) rfl ⟨_, Try.func9, by kernel_rfl, by kernel_rfl⟩ chk9)

theorem holds_cons {x : SB × Bool} {l : PC} : PC.holds ρ (x :: l) ↔ x.1.den ρ = x.2 ∧ PC.holds ρ l := by
  constructor
  · intro h; exact ⟨h x List.mem_cons_self, fun y hy => h y (List.mem_cons_of_mem _ hy)⟩
  · rintro ⟨h1, h2⟩ y hy
    rcases List.mem_cons.1 hy with rfl | hy
    · exact h1
    · exact h2 y hy
theorem holds_append {l m : PC} : PC.holds ρ (l ++ m) ↔ PC.holds ρ l ∧ PC.holds ρ m := by
  induction l with
  | nil => exact ⟨fun h => ⟨PC.holds_nil, h⟩, fun h => h.2⟩
  | cons x l ih => rw [List.cons_append, holds_cons, holds_cons, ih, and_assoc]

theorem rng_holds {i : Nat} (h : 0 ≤ ρ.v i ∧ ρ.v i ≤ 255) : PC.holds ρ (rng i) := by
  unfold rng
  rw [holds_cons, holds_cons]
  exact ⟨decide_eq_true h.1, decide_eq_true h.2, PC.holds_nil⟩

theorem four {x : Int} (h : 0 ≤ x) : ∃ p ∈ prs, x.tmod 4 = (p.1 : Int) := by
  have h1 := Int.emod_nonneg x (show (4 : Int) ≠ 0 by decide)
  have h2 := Int.emod_lt_of_pos x (show (0 : Int) < 4 by decide)
  have h3 : x.tmod 4 = x % 4 := Int.tmod_eq_emod_of_nonneg h
  rcases (show x % 4 = 0 ∨ x % 4 = 1 ∨ x % 4 = 2 ∨ x % 4 = 3 by omega) with e | e | e | e
  · exact ⟨(0, 0), by simp [prs], by rw [h3, e]; rfl⟩
  · exact ⟨(1, 1), by simp [prs], by rw [h3, e]; rfl⟩
  · exact ⟨(2, 4), by simp [prs], by rw [h3, e]; rfl⟩
  · exact ⟨(3, 2), by simp [prs], by rw [h3, e]; rfl⟩

theorem com3_holds (h3 : 3 ≤ ρ.v 3) (r0 : 0 ≤ ρ.v 0 ∧ ρ.v 0 ≤ 255) (r1 : 0 ≤ ρ.v 1 ∧ ρ.v 1 ≤ 255) (r2 : 0 ≤ ρ.v 2 ∧ ρ.v 2 ≤ 255) : PC.holds ρ com3 := by
  unfold com3
  rw [holds_cons, holds_append, holds_append]
  exact ⟨decide_eq_true h3, rng_holds r0, rng_holds r1, rng_holds r2⟩

theorem cover3 (h3 : 3 ≤ ρ.v 3) (r0 : 0 ≤ ρ.v 0 ∧ ρ.v 0 ≤ 255) (r1 : 0 ≤ ρ.v 1 ∧ ρ.v 1 ≤ 255) (r2 : 0 ≤ ρ.v 2 ∧ ρ.v 2 ≤ 255) : ∃ pc ∈ pcs3, PC.holds ρ pc := by
  have hc := com3_holds h3 r0 r1 r2
  by_cases h196 : ρ.v 0 = 196
  · by_cases hlo : (ρ.v 1).tmod 32 < 1
    · exact ⟨[e0 196 true, mlo] ++ com3, by simp [pcs3, cs3], by rw [holds_append, holds_cons, holds_cons]; exact ⟨⟨by simp [e0, SB.den, SE.den, h196], decide_eq_true hlo, PC.holds_nil⟩, hc⟩⟩
    · by_cases hhi : 3 < (ρ.v 1).tmod 32
      · exact ⟨[e0 196 true, mhi] ++ com3, by simp [pcs3, cs3], by rw [holds_append, holds_cons, holds_cons]; exact ⟨⟨by simp [e0, SB.den, SE.den, h196], decide_eq_true hhi, PC.holds_nil⟩, hc⟩⟩
      · obtain ⟨p, hp, he⟩ := four r2.1
        refine ⟨[e0 196 true, mlo', mhi', (.eq (.rem b2 (li 4)) (li p.1), true)] ++ com3, ?_, ?_⟩
        · unfold pcs3 cs3
          refine List.mem_map.2 ⟨_, List.mem_cons_of_mem _ (List.mem_cons_of_mem _ (List.mem_cons_of_mem _ (List.mem_append_right _ (List.mem_map.2 ⟨p, hp, rfl⟩)))), rfl⟩
        · rw [holds_append, holds_cons, holds_cons, holds_cons, holds_cons]
          exact ⟨⟨by simp [e0, SB.den, SE.den, h196], decide_eq_false hlo, decide_eq_false hhi, by simpa [SB.den, SE.den] using he, PC.holds_nil⟩, hc⟩
  · by_cases h197 : ρ.v 0 = 197
    · obtain ⟨p, hp, he⟩ := four r1.1
      refine ⟨[e0 197 true, (.eq (.rem b1 (li 4)) (li p.1), true)] ++ com3, ?_, ?_⟩
      · unfold pcs3 cs3
        refine List.mem_map.2 ⟨_, List.mem_cons_of_mem _ (List.mem_cons_of_mem _ (List.mem_cons_of_mem _ (List.mem_append_left _ (List.mem_map.2 ⟨p, hp, rfl⟩)))), rfl⟩
      · rw [holds_append, holds_cons, holds_cons]
        exact ⟨⟨by simp [e0, SB.den, SE.den, h197], by simpa [SB.den, SE.den] using he, PC.holds_nil⟩, hc⟩
    · exact ⟨[e0 196 false, e0 197 false] ++ com3, by simp [pcs3, cs3], by rw [holds_append, holds_cons, holds_cons]; exact ⟨⟨by simp [e0, SB.den, SE.den, h196], by simp [e0, SB.den, SE.den, h197], PC.holds_nil⟩, hc⟩⟩

theorem cover2 (r0 : 0 ≤ ρ.v 0 ∧ ρ.v 0 ≤ 255) (r1 : 0 ≤ ρ.v 1 ∧ ρ.v 1 ≤ 255) : ∃ pc ∈ pcs2, PC.holds ρ pc := by
  have hc : PC.holds ρ com2 := by unfold com2; rw [holds_append]; exact ⟨rng_holds r0, rng_holds r1⟩
  by_cases h196 : ρ.v 0 = 196
  · by_cases hlo : (ρ.v 1).tmod 32 < 1
    · exact ⟨[e0 196 true, mlo] ++ com2, by simp [pcs2], by rw [holds_append, holds_cons, holds_cons]; exact ⟨⟨by simp [e0, SB.den, SE.den, h196], decide_eq_true hlo, PC.holds_nil⟩, hc⟩⟩
    · by_cases hhi : 3 < (ρ.v 1).tmod 32
      · exact ⟨[e0 196 true, mhi] ++ com2, by simp [pcs2], by rw [holds_append, holds_cons, holds_cons]; exact ⟨⟨by simp [e0, SB.den, SE.den, h196], decide_eq_true hhi, PC.holds_nil⟩, hc⟩⟩
      · refine ⟨[e0 196 true, mlo', mhi'] ++ com2, by simp [pcs2], ?_⟩
        rw [holds_append, holds_cons, holds_cons, holds_cons]
        exact ⟨⟨by simp [e0, SB.den, SE.den, h196], decide_eq_false hlo, decide_eq_false hhi, PC.holds_nil⟩, hc⟩
  · by_cases h197 : ρ.v 0 = 197
    · obtain ⟨p, hp, he⟩ := four r1.1
      refine ⟨[e0 197 true, (.eq (.rem b1 (li 4)) (li p.1), true)] ++ com2, ?_, ?_⟩
      · unfold pcs2
        exact List.mem_cons_of_mem _ (List.mem_cons_of_mem _ (List.mem_cons_of_mem _ (List.mem_cons_of_mem _ (List.mem_map.2 ⟨p, hp, rfl⟩))))
      · rw [holds_append, holds_cons, holds_cons]
        exact ⟨⟨by simp [e0, SB.den, SE.den, h197], by simpa [SB.den, SE.den] using he, PC.holds_nil⟩, hc⟩
    · exact ⟨[e0 196 false, e0 197 false] ++ com2, by simp [pcs2], by rw [holds_append, holds_cons, holds_cons]; exact ⟨⟨by simp [e0, SB.den, SE.den, h196], by simp [e0, SB.den, SE.den, h197], PC.holds_nil⟩, hc⟩⟩

theorem cover1 (r0 : 0 ≤ ρ.v 0 ∧ ρ.v 0 ≤ 255) : ∃ pc ∈ pcs1, PC.holds ρ pc := by
  by_cases h196 : ρ.v 0 = 196
  · exact ⟨[e0 196 true] ++ rng 0, by simp [pcs1], by rw [holds_append, holds_cons]; exact ⟨⟨by simp [e0, SB.den, SE.den, h196], PC.holds_nil⟩, rng_holds r0⟩⟩
  · by_cases h197 : ρ.v 0 = 197
    · exact ⟨[e0 197 true] ++ rng 0, by simp [pcs1], by rw [holds_append, holds_cons]; exact ⟨⟨by simp [e0, SB.den, SE.den, h197], PC.holds_nil⟩, rng_holds r0⟩⟩
    · exact ⟨[e0 196 false, e0 197 false] ++ rng 0, by simp [pcs1], by rw [holds_append, holds_cons, holds_cons]; exact ⟨⟨by simp [e0, SB.den, SE.den, h196], by simp [e0, SB.den, SE.den, h197], PC.holds_nil⟩, rng_holds r0⟩⟩

theorem lensN : ∀ n, 3 ≤ n → n ≤ 100 → pcs3.all (fun pc => isT pc (run Try.prog (XR n) pc 4000 3 [argB n] (HB n))) = true := by
  intro n h1 h2
  have key : ∀ {a m : Nat}, ((List.range m).all fun i => pcs3.all (fun pc => isT pc (run Try.prog (XR (i + a)) pc 4000 3 [argB (i + a)] (HB (i + a))))) = true → a ≤ n → n < a + m → pcs3.all (fun pc => isT pc (run Try.prog (XR n) pc 4000 3 [argB n] (HB n))) = true := by
    intro a m h k1 k2
    have := List.all_eq_true.1 h (n - a) (List.mem_range.2 (by omega))
    rw [Nat.sub_add_cancel k1] at this
    exact this
  by_cases a1 : n < 28
  · exact key lens0 (by omega) (by omega)
  · by_cases a2 : n < 53
    · exact key lens25 (by omega) (by omega)
    · by_cases a3 : n < 77
      · exact key lens50 (by omega) (by omega)
      · exact key lens74 (by omega) (by omega)

/-- What a slice of bytes says of the variables. -/
def envB (len : Nat) (zs : List Int) : Env := ⟨fun i => if i = 3 then len else zs.getD (if i < 3 then i else i - 1) 0, fun _ _ => 0, fun _ _ => false⟩

theorem envB_vb {len : Nat} {zs : List Int} (j : Nat) : (envB len zs).v (vb j) = zs.getD j 0 := by
  unfold vb
  cases h : Nat.blt j 3 with
  | true =>
    have : j < 3 := by simpa using h
    simp only [cond_true, envB]
    rw [if_neg (by omega), if_pos this]
  | false =>
    have : ¬ j < 3 := fun q => by have : Nat.blt j 3 = true := by simpa using q
                                  rw [h] at this; cases this
    simp only [cond_false, envB]
    rw [if_neg (by omega), if_neg (by omega)]
    rfl

theorem HB_get {n id : Nat} {b : Blk} (h : (HB n).get id = some b) : id = 64 ∧ b = .cells false true 5 n (T.puts .nil 0 (cellsB n)) := by
  have h' : ((T.nil : T Blk).put 64 (.cells false true 5 n (T.puts .nil 0 (cellsB n)))).get id = some b := h
  rw [T.get_put] at h'
  split at h'
  · rename_i q; cases h'; exact ⟨q, rfl⟩
  · rw [T.get_nil] at h'; cases h'

/-- Where a slice's bytes lie. -/
def muB (b off size : Nat) : Mu := fun k => if k = 64 then some (b, off, size) else mu0 k

theorem RelB {n len : Nat} {zs : List Int} {W : World} {b off : Nat} {c : Array Value} {e : TypeId} {fr : Nat × Nat} (ho : W.heap[b]? = some (.cells c e fr)) (hn : off + n ≤ c.size)
    (hc : ∀ i, i < n → c[off + i]? = some (.int .u8 (zs.getD i 0))) : Rel (envB len zs) (muB b off c.size) (HB n).get (HB n).next W where
  blk := fun id bk hb => by
    obtain ⟨rfl, rfl⟩ := HB_get hb
    refine ⟨(b, off, c.size), _, by simp [muB], ho, c, e, fr, rfl, rfl, hn, (fun h => by cases h), ?_⟩
    intro j v hj hv
    have hv := puts_get hv
    unfold cellsB at hv
    rw [List.getElem?_map, List.getElem?_range hj] at hv
    cases hv
    exact ⟨_, hc j hj, by rw [VR]; simp only [SE.den]; rw [envB_vb]⟩
  inj := fun i j b b' p q hi hj ho => by obtain ⟨rfl, rfl⟩ := HB_get hi; cases ho
  fresh := fun id p hp => by
    show id < 65
    unfold muB at hp
    split at hp
    · omega
    · unfold mu0 at hp
      split at hp
      · omega
      · cases hp
  glob := fun k hk => ⟨0, by unfold muB mu0; rw [if_neg (by omega), if_pos hk]⟩

theorem calls_nil (W : World) : Calls Try.prog 3 #[.slice none 0 0] W fun e w' => e = .returned (.bool true) ∧ Go.RowKit.Below W.heap.size W w' :=
  calls_casesH (ρ := envB 0 []) (h0 := H0) (μ0 := mu0) hmix (fun _ _ => XA_ok) rfl tnil ⟨[], List.mem_cons_self, PC.holds_nil⟩ Rel0 (fun id b h => by cases (show (none : Option Blk) = some b from h))
    (VRs_cons.2 ⟨_, _, rfl, by rw [VR], VRs_nil.2 rfl⟩)

theorem calls_emp (W : World) (a : Addr) (cap : Nat) : Calls Try.prog 3 #[.slice (some a) 0 cap] W fun e w' => e = .returned (.bool true) ∧ Go.RowKit.Below W.heap.size W w' :=
  calls_casesH (ρ := envB 0 []) (h0 := H0) (μ0 := mu0) hmix (fun _ _ => XA_ok) rfl t0 ⟨[], List.mem_cons_self, PC.holds_nil⟩ Rel0 (fun id b h => by cases (show (none : Option Blk) = some b from h))
    (VRs_cons.2 ⟨_, _, rfl, by rw [VR]; exact ⟨_, _, rfl⟩, VRs_nil.2 rfl⟩)

theorem calls_some (W : World) (a : Addr) (len cap : Nat) (zs : List Int) (hl : 0 < len) (hlc : len ≤ cap) (hz : zs.length = cap)
    (hcell : ∀ i, i < zs.length → W.cell? (a.add i) = some (.int .u8 (zs.getD i 0))) (hw : ∀ n ∈ zs, 0 ≤ n ∧ n ≤ 255) :
    Calls Try.prog 3 #[.slice (some a) len cap] W fun e w' => e = .returned (.bool true) ∧ Go.RowKit.Below W.heap.size W w' := by
  obtain ⟨b, off, spot⟩ := a
  have hc0 := hcell 0 (by omega)
  obtain ⟨c, e, fr, ho, hs⟩ : ∃ c e fr, W.heap[b]? = some (.cells c e fr) ∧ spot = none := by
    simp only [World.cell?, Addr.add] at hc0
    split at hc0
    · rename_i c e fr ho
      cases spot with
      | none => exact ⟨c, e, fr, ho, rfl⟩
      | some s => simp at hc0
    · cases hc0
  subst hs
  have hcc : ∀ i, i < cap → c[off + i]? = some (.int .u8 (zs.getD i 0)) := by
    intro i hi
    have := hcell i (by omega)
    rw [addr_add, cell_at ho] at this
    exact this
  have hsz : off + cap ≤ c.size := by
    have := (Array.getElem?_eq_some_iff.1 (hcc (cap - 1) (by omega))).1
    omega
  have bytes : ∀ i, i < len → 0 ≤ zs.getD i 0 ∧ zs.getD i 0 ≤ 255 := by
    intro i hi
    have h1 : i < zs.length := by omega
    have : zs.getD i 0 = zs[i] := by simp [List.getD, List.getElem?_eq_getElem h1]
    rw [this]
    exact hw _ (List.getElem_mem h1)
  have foreign : ∀ {n : Nat}, ∀ id bk, (HB n).get id = some bk → bk.own = false := fun id bk h => by obtain ⟨_, rfl⟩ := HB_get h; rfl
  have v3 : (envB len zs).v 3 = len := rfl
  by_cases hbig : 100 < len
  · refine calls_casesH (ρ := envB len zs) (h0 := HB 0) hmix (fun _ _ => XA_ok) rfl tbig ⟨_, List.mem_cons_self, ?_⟩ (RelB (n := 0) (off := off) (zs := zs) ho (by omega) (fun i hi => by omega)) foreign ?_
    · rw [holds_cons]
      refine ⟨?_, PC.holds_nil⟩
      simp only [SB.den, SE.den, v3]
      simp
      omega
    · refine VRs_cons.2 ⟨_, _, rfl, ?_, VRs_nil.2 rfl⟩
      rw [VR]
      refine ⟨(b, off, c.size), cap, len, ?_, ?_, ?_, ?_⟩
      · rfl
      · rfl
      · simp [SE.den, v3]
      · exact Nat.zero_le _
  · have hv : VRs (envB len zs) (muB b off c.size) [argB len] [.slice (some ⟨b, off, none⟩) len cap] := by
      refine VRs_cons.2 ⟨_, _, rfl, ?_, VRs_nil.2 rfl⟩
      rw [VR]
      exact ⟨(b, off, c.size), cap, by simp [muB], rfl, (fun h => by cases h), hlc, Nat.le_refl _, by simp only; omega⟩
    have R := RelB (n := len) (len := len) (off := off) (zs := zs) ho (by omega) (fun i hi => hcc i (by omega))
    by_cases h3 : 3 ≤ len
    · exact calls_casesH (ρ := envB len zs) (h0 := HB len) hmix (fun _ hp => XR_ok hp v3 h3) rfl (lensN len h3 (by omega)) (cover3 (by rw [v3]; omega) (bytes 0 (by omega)) (bytes 1 (by omega)) (bytes 2 (by omega))) R foreign hv
    · by_cases h2 : len = 2
      · subst h2
        exact calls_casesH (ρ := envB 2 zs) (h0 := HB 2) hmix (fun _ _ => XA_ok) rfl t2 (cover2 (bytes 0 (by omega)) (bytes 1 (by omega))) R foreign hv
      · have h1 : len = 1 := by omega
        subst h1
        exact calls_casesH (ρ := envB 1 zs) (h0 := HB 1) hmix (fun _ _ => XA_ok) rfl t1 (cover1 (bytes 0 (by omega))) R foreign hv
end
end Ev
end Go.Proofs.Ytlngklpiapbpmaa
