/- VexBack answers 'true', whatever memory holds; no conditions. -/
import Derived.Test.YtlngklpiapbpmaaVxI
set_option linter.unusedSimpArgs false
set_option linter.unusedVariables false
namespace Go.Proofs.Ytlngklpiapbpmaa
open Go.Ev
namespace Ev
noncomputable def XK : Hooks := X0.with 4 (sumTab [] tKn)
noncomputable def stBig (ei : Bool) : St := st0 (fnB Try.prog) [vF 200, bv ei, .slv 64 0 0 (.var 3) 1] (HB 0)
def pcBig : PC := [(.lt (li 20) (.var 3), true)]
set_option maxRecDepth 100000 in
theorem sBig : ([false, true].all fun ei => lastOK Try.prog (fun _ => XK) 4000 (fr0 5 (fnB Try.prog)) (fnB Try.prog) (partsB Try.prog) (stBig ei) pcBig) = true := by kernel_rfl

theorem all1_le : ∀ n, n ≤ 20 → ∀ nl, (nl = true ∨ n = 0) → all1 nl n = true := by
  intro n hn nl h
  have : n = 0 ∨ n = 1 ∨ n = 2 ∨ n = 3 ∨ n = 4 ∨ n = 5 ∨ n = 6 ∨ n = 7 ∨ n = 8 ∨ n = 9 ∨ n = 10 ∨ n = 11 ∨ n = 12 ∨ n = 13 ∨ n = 14 ∨ n = 15 ∨ n = 16 ∨ n = 17 ∨ n = 18 ∨ n = 19 ∨ n = 20 := by omega
  rcases h with rfl | rfl
  · rcases this with rfl | rfl | rfl | rfl | rfl | rfl | rfl | rfl | rfl | rfl | rfl | rfl | rfl | rfl | rfl | rfl | rfl | rfl | rfl | rfl | rfl 
    · exact sa0
    · exact sa1
    · exact sa2
    · exact sa3
    · exact sa4
    · exact sa5
    · exact sa6
    · exact sa7
    · exact sa8
    · exact sa9
    · exact sa10
    · exact sa11
    · exact sa12
    · exact sa13
    · exact sa14
    · exact sa15
    · exact sa16
    · exact sa17
    · exact sa18
    · exact sa19
    · exact sa20
  · cases nl
    · exact sa0e
    · exact sa0
theorem all2_le : ∀ n, n ≤ 20 → ∀ nl, (nl = true ∨ n = 0) → all2 nl n = true := by
  intro n hn nl h
  have : n = 0 ∨ n = 1 ∨ n = 2 ∨ n = 3 ∨ n = 4 ∨ n = 5 ∨ n = 6 ∨ n = 7 ∨ n = 8 ∨ n = 9 ∨ n = 10 ∨ n = 11 ∨ n = 12 ∨ n = 13 ∨ n = 14 ∨ n = 15 ∨ n = 16 ∨ n = 17 ∨ n = 18 ∨ n = 19 ∨ n = 20 := by omega
  rcases h with rfl | rfl
  · rcases this with rfl | rfl | rfl | rfl | rfl | rfl | rfl | rfl | rfl | rfl | rfl | rfl | rfl | rfl | rfl | rfl | rfl | rfl | rfl | rfl | rfl 
    · exact sb0
    · exact sb1
    · exact sb2
    · exact sb3
    · exact sb4
    · exact sb5
    · exact sb6
    · exact sb7
    · exact sb8
    · exact sb9
    · exact sb10
    · exact sb11
    · exact sb12
    · exact sb13
    · exact sb14
    · exact sb15
    · exact sb16
    · exact sb17
    · exact sb18
    · exact sb19
    · exact sb20
  · cases nl
    · exact sb0e
    · exact sb0

section
variable {ρ : Env}
theorem fnB_eq : fnB Try.prog = Try.f5 := by
  unfold fnB
  rw [Try.func5]; rfl

/-- In whichever case: to the end. -/
theorem fin_case (hf : ∀ x, ρ.fn 5 [x] = ppI x) (ei nl : Bool) {n : Nat} (hn : n ≤ 20) (hnl : nl = true ∨ n = 0) (hb : ∀ i, i < n → i < 3 → 0 ≤ ρ.v i ∧ ρ.v i ≤ 255) (hz : ∀ i, i < 8 → ρ.v (210 + i) = (rdOf ρ n).1.getD i 0) (he : ρ.v 209 = (rdOf ρ n).2.2) :
    Fin Try.prog ρ (fr0 5 (fnB Try.prog)) (fnB Try.prog) (partsB Try.prog) (stA Try.prog ei nl n) := by
  have mei : ei ∈ [false, true] := by cases ei <;> simp
  rw [← List.take_append_drop 9 (partsB Try.prog)]
  obtain ⟨k, hk, hp, hX⟩ := seg1_case hf ei (n := n) (fun h => hb 0 h (by decide))
  refine fin_seg (Xs := fun _ => XVk Try.prog ei k n) (k := 4000) (st' := stB ei nl n) hmix rfl hp hX ?_ ?_
  · exact List.all_eq_true.1 (List.all_eq_true.1 (all1_le n hn nl hnl) ei mei) k hk
  · obtain ⟨t, k', hk', hp', hX'⟩ := seg2_case hf ei hb hz he
    have mt : t ∈ [false, true] := by cases t <;> simp
    refine fin_last (Xs := fun _ => XBk Try.prog ei t k' n) (k := 4000) hmix rfl hp' hX' ?_
    exact List.all_eq_true.1 (List.all_eq_true.1 (List.all_eq_true.1 (all2_le n hn nl hnl) ei mei) t mt) k' hk'

/-- What the arguments say of the variables. -/
def envV (len : Nat) (zs : List Int) (z : Nat → Int) : Env :=
  ⟨fun i => if 210 ≤ i then (if len = 0 then (zero8, (0 : Int), (9 : Int)) else rdF (min len 3) (zs.getD 0 0) (zs.getD 1 0) (zs.getD 2 0)).1.getD (i - 210) 0
    else if i = 209 then (if len = 0 then (zero8, (0 : Int), (9 : Int)) else rdF (min len 3) (zs.getD 0 0) (zs.getD 1 0) (zs.getD 2 0)).2.2
    else if 200 ≤ i then z (i - 200) else if i = 3 then len else zs.getD (if i < 3 then i else i - 1) 0, fun _ xs => ppI (xs.headD 0), fun _ _ => false⟩

theorem envV_rd {len : Nat} {zs : List Int} {z : Nat → Int} : rdOf (envV len zs z) len = (if len = 0 then (zero8, (0 : Int), (9 : Int)) else rdF (min len 3) (zs.getD 0 0) (zs.getD 1 0) (zs.getD 2 0)) := rfl
theorem envV_hi {len : Nat} {zs : List Int} {z : Nat → Int} (i : Nat) : (envV len zs z).v (210 + i) = (rdOf (envV len zs z) len).1.getD i 0 := by
  rw [envV_rd]
  show (if 210 ≤ 210 + i then _ else _) = _
  rw [if_pos (by omega), Nat.add_sub_cancel_left]
theorem envV_er {len : Nat} {zs : List Int} {z : Nat → Int} : (envV len zs z).v 209 = (rdOf (envV len zs z) len).2.2 := by
  rw [envV_rd]; rfl
theorem envV_z {len : Nat} {zs : List Int} {z : Nat → Int} {i : Nat} (h : i < 8) : (envV len zs z).v (200 + i) = z i := by
  show (if 210 ≤ 200 + i then _ else if 200 + i = 209 then _ else if 200 ≤ 200 + i then z (200 + i - 200) else _) = _
  rw [if_neg (by omega), if_neg (by omega), if_pos (by omega), Nat.add_sub_cancel_left]
theorem envV_b {len : Nat} {zs : List Int} {z : Nat → Int} {j : Nat} (h : j < 30) : (envV len zs z).v (vb j) = zs.getD j 0 := by
  unfold vb
  cases hj : Nat.blt j 3 with
  | true =>
    have hj : j < 3 := by simpa using hj
    show (if 210 ≤ j then _ else if j = 209 then _ else if 200 ≤ j then z (j - 200) else if j = 3 then (len : Int) else zs.getD (if j < 3 then j else j - 1) 0) = _
    rw [if_neg (by omega), if_neg (by omega), if_neg (by omega), if_neg (by omega), if_pos hj]
  | false =>
    have hj : ¬ j < 3 := fun q => by have : Nat.blt j 3 = true := by simpa using q
                                     rw [hj] at this; cases this
    show (if 210 ≤ j + 1 then _ else if j + 1 = 209 then _ else if 200 ≤ j + 1 then z (j + 1 - 200) else if j + 1 = 3 then (len : Int) else zs.getD (if j + 1 < 3 then j + 1 else j + 1 - 1) 0) = _
    rw [if_neg (by omega), if_neg (by omega), if_neg (by omega), if_neg (by omega), if_neg (by omega), Nat.add_sub_cancel]

theorem HB_get {n id : Nat} {b : Blk} (h : (HB n).get id = some b) : id = 64 ∧ b = .cells false true 5 n (T.puts .nil 0 (cellsB n)) := by
  have h' : ((T.nil : T Blk).put 64 (.cells false true 5 n (T.puts .nil 0 (cellsB n)))).get id = some b := h
  rw [T.get_put] at h'
  split at h'
  · rename_i q; cases h'; exact ⟨q, rfl⟩
  · rw [T.get_nil] at h'; cases h'

def muB (b off size : Nat) : Mu := fun k => if k = 64 then some (b, off, size) else mu0 k

theorem RelB {n : Nat} {W : World} {b off : Nat} {c : Array Value} {e : TypeId} {fr : Nat × Nat} (ho : W.heap[b]? = some (.cells c e fr)) (hn : off + n ≤ c.size)
    (hc : ∀ i, i < n → c[off + i]? = some (.int .u8 (ρ.v (vb i)))) : Rel ρ (muB b off c.size) (HB n).get (HB n).next W where
  blk := fun id bk hb => by
    obtain ⟨rfl, rfl⟩ := HB_get hb
    refine ⟨(b, off, c.size), _, by simp [muB], ho, c, e, fr, rfl, rfl, hn, (fun h => by cases h), ?_⟩
    intro j v hj hv
    have hv := puts_get hv
    unfold cellsB at hv
    rw [List.getElem?_map, List.getElem?_range hj] at hv
    cases hv
    exact ⟨_, hc j hj, by rw [VR]; rfl⟩
  inj := fun i j b b' p q hi hj ho => by obtain ⟨rfl, rfl⟩ := HB_get hi; cases ho
  fresh := fun id p hp => by
    show id < 65
    unfold muB at hp
    split at hp
    · omega
    · unfold mu0 at hp
      split at hp
      · omega
      · cases hp
  glob := fun k hk => ⟨0, by unfold muB mu0; rw [if_neg (by omega), if_pos hk]⟩

def aggZ (z : Nat → Int) : Value := .agg ((List.range 8).map fun i => Value.int .i64 (z i)).toArray

theorem go {μ : Mu} {h0 : H} {W : World} {bv' : AV} {bval : Value} {ei : Bool} {z : Nat → Int} (hz : ∀ i, i < 8 → ρ.v (200 + i) = z i) (hF : Fin Try.prog ρ (fr0 5 (fnB Try.prog)) (fnB Try.prog) (partsB Try.prog) (st0 (fnB Try.prog) [vF 200, bv ei, bv'] h0))
    (R : Rel ρ μ h0.get h0.next W) (hg : ∀ id b, h0.get id = some b → b.own = false) (hv : VR ρ μ bv' bval) :
    Calls Try.prog 5 #[aggZ z, .bool ei, bval] W fun e w' => e = .returned (.bool true) ∧ Go.RowKit.Below W.heap.size W w' := by
  obtain ⟨c, hc⟩ : ∃ c, Try.f5.body = some c := ⟨_, rfl⟩
  have hpb : partsB Try.prog = flat c := by
    unfold partsB
    rw [fnB_eq, hc]
  rw [hpb, fnB_eq] at hF
  exact calls_fin Try.func5 hc (by rw [Try.ntmps5]; show 3 ≤ 195; decide) hF R hg (VRs_cons.2 ⟨_, _, rfl, vF_holds hz, VRs_cons.2 ⟨_, _, rfl, by rw [VR]; rfl, VRs_cons.2 ⟨_, _, rfl, hv, VRs_nil.2 rfl⟩⟩⟩)

theorem calls_nil (W : World) (ei : Bool) (z : Nat → Int) : Calls Try.prog 5 #[aggZ z, .bool ei, .slice none 0 0] W fun e w' => e = .returned (.bool true) ∧ Go.RowKit.Below W.heap.size W w' :=
  go (ρ := envV 0 [] z) (μ := mu0) (h0 := H0) (bv' := .nils) (fun i hi => envV_z hi)
    (fin_case (fun _ => rfl) ei true (n := 0) (by decide) (.inl rfl) (fun i h => absurd h (Nat.not_lt_zero i)) (fun i _ => envV_hi i) envV_er)
    Rel0 (fun id b h => by cases (show (none : Option Blk) = some b from h)) (by rw [VR])

theorem calls_emp (W : World) (ei : Bool) (z : Nat → Int) (a : Addr) (cap : Nat) : Calls Try.prog 5 #[aggZ z, .bool ei, .slice (some a) 0 cap] W fun e w' => e = .returned (.bool true) ∧ Go.RowKit.Below W.heap.size W w' :=
  go (ρ := envV 0 [] z) (μ := mu0) (h0 := H0) (bv' := .emp) (fun i hi => envV_z hi)
    (fin_case (fun _ => rfl) ei false (n := 0) (by decide) (.inr rfl) (fun i h => absurd h (Nat.not_lt_zero i)) (fun i _ => envV_hi i) envV_er)
    Rel0 (fun id b h => by cases (show (none : Option Blk) = some b from h)) (by rw [VR]; exact ⟨_, _, rfl⟩)

theorem XK_ok {pc : PC} : HooksOK Try.prog ρ XK pc := X0_ok.with (sumTab_ok (gl := []) rfl X0_ok rfl hmix ⟨_, Try.func4, by kernel_rfl, by kernel_rfl⟩ chk4)

theorem calls_some (W : World) (ei : Bool) (z : Nat → Int) (a : Addr) (len cap : Nat) (zs : List Int) (hl : 0 < len) (hlc : len ≤ cap) (hz : zs.length = cap)
    (hcell : ∀ i, i < zs.length → W.cell? (a.add i) = some (.int .u8 (zs.getD i 0))) (hw : ∀ n ∈ zs, 0 ≤ n ∧ n ≤ 255) :
    Calls Try.prog 5 #[aggZ z, .bool ei, .slice (some a) len cap] W fun e w' => e = .returned (.bool true) ∧ Go.RowKit.Below W.heap.size W w' := by
  obtain ⟨b, off, spot⟩ := a
  have hc0 := hcell 0 (by omega)
  obtain ⟨c, e, fr, ho, hs⟩ : ∃ c e fr, W.heap[b]? = some (.cells c e fr) ∧ spot = none := by
    simp only [World.cell?, Addr.add] at hc0
    split at hc0
    · rename_i c e fr ho
      cases spot with
      | none => exact ⟨c, e, fr, ho, rfl⟩
      | some s => simp at hc0
    · cases hc0
  subst hs
  have hcc : ∀ i, i < cap → c[off + i]? = some (.int .u8 (zs.getD i 0)) := by
    intro i hi
    have := hcell i (by omega)
    rw [addr_add, cell_at ho] at this
    exact this
  have hsz : off + cap ≤ c.size := by
    have := (Array.getElem?_eq_some_iff.1 (hcc (cap - 1) (by omega))).1
    omega
  have bytes : ∀ i, i < len → 0 ≤ zs.getD i 0 ∧ zs.getD i 0 ≤ 255 := by
    intro i hi
    have h1 : i < zs.length := by omega
    have : zs.getD i 0 = zs[i] := by simp [List.getD, List.getElem?_eq_getElem h1]
    rw [this]
    exact hw _ (List.getElem_mem h1)
  have foreign : ∀ {n : Nat}, ∀ id bk, (HB n).get id = some bk → bk.own = false := fun id bk h => by obtain ⟨_, rfl⟩ := HB_get h; rfl
  have hzv : ∀ i, i < 8 → (envV len zs z).v (200 + i) = z i := fun i hi => envV_z hi
  have v3 : (envV len zs z).v 3 = len := rfl
  by_cases hbig : 20 < len
  · refine go (ρ := envV len zs z) (h0 := HB 0) (bv' := .slv 64 0 0 (.var 3) 1) hzv ?_ (RelB (n := 0) (off := off) ho (by omega) (fun i hi => by omega)) foreign ?_
    · refine fin_last (Xs := fun _ => XK) (k := 4000) (pc := pcBig) hmix rfl ?_ XK_ok ?_
      · refine holds_cons.2 ⟨decide_eq_true ?_, PC.holds_nil⟩
        show (20 : Int) < (envV len zs z).v 3
        rw [v3]; omega
      · exact List.all_eq_true.1 sBig ei (by cases ei <;> simp)
    · rw [VR]
      refine ⟨(b, off, c.size), cap, len, ?_, ?_, ?_, ?_, ?_, ?_⟩
      · rfl
      · rfl
      · show (len : Int) = (envV len zs z).v 3; rw [v3]
      · exact Nat.zero_le _
      · exact hlc
      · simp only; omega
  · have hne : Nat.beq len 0 = false := by
      cases hb : Nat.beq len 0 with
      | false => rfl
      | true => have := beq_eq hb; omega
    have hF := fin_case (ρ := envV len zs z) (fun _ => rfl) ei true (n := len) (by omega) (.inl rfl) (by
      intro i hi h3
      have e : (envV len zs z).v i = zs.getD i 0 := by
        have := envV_b (len := len) (zs := zs) (z := z) (j := i) (by omega)
        unfold vb at this
        rw [show Nat.blt i 3 = true by simpa using h3, cond_true] at this
        exact this
      rw [e]; exact bytes i hi) (fun i _ => envV_hi i) envV_er
    unfold stA bArg HBn at hF
    rw [hne] at hF
    refine go (ρ := envV len zs z) (h0 := HB len) (bv' := argB len) hzv hF (RelB (n := len) (off := off) ho (by omega) (fun i hi => by rw [envV_b (by omega)]; exact hcc i (by omega))) foreign ?_
    rw [VR]
    exact ⟨(b, off, c.size), cap, by simp [muB], rfl, (fun h => by cases h), hlc, Nat.le_refl _, by simp only; omega⟩
end
end Ev
end Go.Proofs.Ytlngklpiapbpmaa
