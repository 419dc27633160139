/- Summaries of functions without input: what one run of the evaluator has told may be laid beside any heap; no theorem of the program yet; no conditions. -/
import Derived.Test.YtlngklpiapbpmaaEvV
set_option linter.unusedSimpArgs false
set_option linter.unusedVariables false
namespace Go.Ev

/-! ### Other numbers -/
noncomputable def shI (d id : Nat) : Nat := bif Nat.blt id 64 then id else id + d
noncomputable def shF (d : Nat) : Fn → Fn
  | .yield l => .yield (shI d l)
  | f => f
mutual
noncomputable def AV.sh (d : Nat) : AV → AV
  | .ptr id off => .ptr (shI d id) off
  | .slc id off len ex cap es => .slc (shI d id) off len ex cap es
  | .slv id off n l es => .slv (shI d id) off n l es
  | .map id => .map (shI d id)
  | .func f a b => .func (shF d f) (avsSh d a) (avsSh d b)
  | .iface t v => .iface t (v.sh d)
  | .agg cs => .agg (avsSh d cs)
  | .tup vs => .tup (avsSh d vs)
  | v => v
noncomputable def avsSh (d : Nat) : List AV → List AV
  | [] => []
  | a :: as => a.sh d :: avsSh d as
end

/-- A block of a summary: its number, whether it is open, its elements' type, its cells. -/
abbrev SBlk := Nat × Bool × Nat × List AV

noncomputable def laySum (d : Nat) (t : T Blk) : List SBlk → T Blk
  | [] => t
  | (id, opn, e, cs) :: l => laySum d (t.put (id + d) (.cells true opn e cs.length (T.puts .nil 0 (avsSh d cs)))) l

noncomputable def sumOf (v : AV) (nx : Nat) (l : List SBlk) : PC → List AV → H → Res (AV × H) := fun _ args h =>
  match args with
  | [] => .ok (v.sh (h.next - 64), ⟨nx + (h.next - 64), laySum (h.next - 64) h.tr l⟩)
  | _ => .fail "a summary of a function without arguments"

noncomputable def chkBlk (h : H) : SBlk → Bool
  | (id, opn, e, cs) =>
    Nat.ble 64 id && (match h.get id with
    | some (.cells true opn' e' m vals) => (opn == opn' && Nat.beq e e') && ((opn || Nat.beq cs.length m) && (Nat.ble cs.length m && (match vals.gets 0 cs.length with
      | some vs => avsBeq vs cs
      | none => false)))
    | _ => false)

noncomputable def chkSum (v : AV) (nx : Nat) (l : List SBlk) (r : Res (AV × H)) : Bool :=
  match r with
  | .ok (v', h) => v'.beq v && (Nat.ble h.next nx && l.all (chkBlk h))
  | _ => false

section
variable {ρ : Env} {μ1 μ' : Mu} {d : Nat}

theorem fnR_sh (h : ∀ id p, μ1 id = some p → μ' (shI d id) = some p) {f g : Fn} (hf : fnR μ1 f g) : fnR μ' (shF d f) g := by
  cases f <;> simp only [fnR, shF] at hf ⊢ <;> first
    | exact hf
    | (obtain ⟨p, h1, h2⟩ := hf; exact ⟨p, h _ _ h1, h2⟩)

mutual
theorem VR_sh (h : ∀ id p, μ1 id = some p → μ' (shI d id) = some p) : ∀ {a : AV} {v : Value}, VR ρ μ1 a v → VR ρ μ' (a.sh d) v
  | .int _ _, _, hv => by simp only [AV.sh, VR] at hv ⊢; exact hv
  | .bool _, _, hv => by simp only [AV.sh, VR] at hv ⊢; exact hv
  | .str _ _, _, hv => by simp only [AV.sh, VR] at hv ⊢; exact hv
  | .nilp, _, hv => by simp only [AV.sh, VR] at hv ⊢; exact hv
  | .ptr id off, _, hv => by
    simp only [AV.sh, VR] at hv ⊢
    obtain ⟨p, h1, h2⟩ := hv
    exact ⟨p, h _ _ h1, h2⟩
  | .nils, _, hv => by simp only [AV.sh, VR] at hv ⊢; exact hv
  | .slc .., _, hv => by
    simp only [AV.sh, VR] at hv ⊢
    obtain ⟨p, c, h1, h2⟩ := hv
    exact ⟨p, c, h _ _ h1, h2⟩
  | .emp, _, hv => by simp only [AV.sh, VR] at hv ⊢; exact hv
  | .slv .., _, hv => by
    simp only [AV.sh, VR] at hv ⊢
    obtain ⟨p, c, m, h0, h1, h2⟩ := hv
    exact ⟨p, c, m, h0, h _ _ h1, h2⟩
  | .nilm, _, hv => by simp only [AV.sh, VR] at hv ⊢; exact hv
  | .map _, _, hv => by
    simp only [AV.sh, VR] at hv ⊢
    obtain ⟨p, h1, h2⟩ := hv
    exact ⟨p, h _ _ h1, h2⟩
  | .nilf, _, hv => by simp only [AV.sh, VR] at hv ⊢; exact hv
  | .func _ _ _, _, hv => by
    simp only [AV.sh, VR] at hv ⊢
    obtain ⟨f, a, b, h1, h2, h3, h4⟩ := hv
    exact ⟨f, a, b, h1, fnR_sh h h2, VRs_sh h h3, VRs_sh h h4⟩
  | .nili, _, hv => by simp only [AV.sh, VR] at hv ⊢; exact hv
  | .iface _ _, _, hv => by
    simp only [AV.sh, VR] at hv ⊢
    obtain ⟨y, h1, h2⟩ := hv
    exact ⟨y, h1, VR_sh h h2⟩
  | .agg _, _, hv => by
    simp only [AV.sh, VR] at hv ⊢
    obtain ⟨ys, h1, h2⟩ := hv
    exact ⟨ys, h1, VRs_sh h h2⟩
  | .tup _, _, hv => by
    simp only [AV.sh, VR] at hv ⊢
    obtain ⟨ys, h1, h2⟩ := hv
    exact ⟨ys, h1, VRs_sh h h2⟩
theorem VRs_sh (h : ∀ id p, μ1 id = some p → μ' (shI d id) = some p) : ∀ {as : List AV} {vs : List Value}, VRs ρ μ1 as vs → VRs ρ μ' (avsSh d as) vs
  | [], _, hv => by simp only [avsSh, VRs] at hv ⊢; exact hv
  | _ :: _, _, hv => by
    simp only [avsSh, VRs] at hv ⊢
    obtain ⟨y, r, h1, h2, h3⟩ := hv
    exact ⟨y, r, h1, VR_sh h h2, VRs_sh h h3⟩
end
end

end Go.Ev
