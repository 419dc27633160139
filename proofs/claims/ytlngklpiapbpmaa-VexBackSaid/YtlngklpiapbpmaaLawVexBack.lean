/- VexBack holds, for every input; no conditions. -/
import Derived.Test.YtlngklpiapbpmaaVxJ
import Derived.Test.YtlngklpiapbpmaaRows
import Derived.ProofKit
import Derived.Lib.SmallJoins
set_option linter.unusedSimpArgs false
set_option linter.unusedVariables false
namespace Go.Proofs.Ytlngklpiapbpmaa
open Go.ChangeShapes Go.WideShapes Go.ChangeAt Go.RowKit Go.Joins Go.Ev
namespace Ev
theorem own : ownKnob Try.prog.godebug = none := by kernel_rfl
theorem laidOut : laidOutB Try.prog = true := by kernel_rfl
theorem cells5 : Try.prog.cellsOf 5 = 1 := by kernel_rfl
theorem cells3 : Try.prog.cellsOf 3 = 1 := by kernel_rfl
theorem cells26 : Try.prog.cellsOf 26 = 8 := by kernel_rfl

/-- A struct of eight whole numbers, by value. -/
theorem open_agg8 {H : Type} {enc : TypeId × Value → H} {W : World} {base b0 : Nat} {spare : Nat → Bool} {held : Bool} {r : Reach} {v : Value} {d : DataW H} {p : List MemPlace}
    (hv : Value.okWide Try.prog W r b0 26 v) (h : DataW.Trod enc Try.prog W base spare held 26 v d p) : ∃ z : Nat → Int, v = aggZ z := by
  obtain ⟨cs, rfl, hsz⟩ := okWide_struct Try.underlying26 hv
  rw [cells26] at hsz
  obtain ⟨fuel, hf⟩ := h
  obtain ⟨xs, n, _, _, _, hlen, hf⟩ := DataW.trod_struct Try.underlying26 hf
  have key : ∀ i, i < 8 → ∃ z : Int, cs[i]? = some (.int .i64 z) := by
    intro i hi
    have h8 : i = 0 ∨ i = 1 ∨ i = 2 ∨ i = 3 ∨ i = 4 ∨ i = 5 ∨ i = 6 ∨ i = 7 := by omega
    have h8' : xs.length = 8 := hlen
    have fin : DataW.trod enc Try.prog W base spare held n 3 (List.take (Try.prog.cellsOf 3) (List.drop i (Value.agg cs).cells.toList)) = xs[i]? → ∃ z : Int, cs[i]? = some (.int .i64 z) := by
      intro hy
      rw [List.getElem?_eq_getElem (by omega)] at hy
      have hy : DataW.trod enc Try.prog W base spare held n 3 ((cs.toList.drop i).take (Try.prog.cellsOf 3)) = some xs[i] := hy
      obtain ⟨z, h1, _⟩ := DataW.trod_int Try.underlying3 hy
      refine ⟨z, ?_⟩
      rw [cells3] at h1
      have : (cs.toList.drop i)[0]? = some (.int .i64 z) := by
        have h2 := congrArg (fun l => l[0]?) h1
        simpa [List.getElem?_take] using h2
      simpa using this
    rcases h8 with rfl | rfl | rfl | rfl | rfl | rfl | rfl | rfl
    · exact fin (hf 0 _ rfl)
    · exact fin (hf 1 _ rfl)
    · exact fin (hf 2 _ rfl)
    · exact fin (hf 3 _ rfl)
    · exact fin (hf 4 _ rfl)
    · exact fin (hf 5 _ rfl)
    · exact fin (hf 6 _ rfl)
    · exact fin (hf 7 _ rfl)
  refine ⟨fun i => match cs[i]? with
    | some (.int .i64 z) => z
    | _ => 0, ?_⟩
  unfold aggZ
  congr 1
  apply Array.ext_getElem?
  intro i
  by_cases hi : i < 8
  · obtain ⟨z, hz⟩ := key i hi
    rw [hz]
    simp [List.getElem?_range hi, hz]
  · rw [Array.getElem?_eq_none (by omega), Array.getElem?_eq_none (by simp; omega)]

set_option maxRecDepth 100000 in
theorem vexBack_lifted (os : Os) (started : os.Started) (H : Type) (enc : TypeId × Value → H) :
    ReturnsInHanded {} Try.checked os 5 .any (Rows.vexBackSpec.pre6 enc Try.prog Try.f5 Rows.vexBackRow.domain false) (Rows.vexBackSpec.post enc Try.prog Try.f5 false true false false) := by
  refine returnsInHanded_of_change (C := Try.checked) own started (by kernel_rfl) Try.func5
    (ChangeSpec.witness6 (enc := enc) (C := Try.checked) false ⟨#[], #[.agg #[.int .i64 0, .int .i64 0, .int .i64 0, .int .i64 0, .int .i64 0, .int .i64 0, .int .i64 0, .int .i64 0], .bool false, .slice none 0 0], []⟩ 8 (by kernel_rfl) (by kernel_rfl) (by kernel_rfl) (by kernel_rfl)) ?_
  intro W base args ds gs before hval0 hW _ _
  have hval : ∀ (j : Nat) t v, Try.f5.params[j]? = some t → args[j]? = some v → Value.okWide Try.prog W .any base t v := hval0
  have hW' := hW
  obtain ⟨p, q, hA0, hV, rfl, _, _⟩ := hW
  have hA : DataW.TrodAll enc Try.prog W 0 (fun _ => true) true Try.f5.params.toList args.toList ds p := hA0
  rw [Try.params5] at hA hval
  obtain ⟨v0, v1, v2, d0, d1, d2, p0, p1, p2, rfl, rfl, rfl, h0, h1, h2⟩ := trodAll_three hA
  obtain ⟨rfl, rfl⟩ := trodVars_none hV
  obtain ⟨a0, len0, cap0, rfl⟩ := okWide_slice Try.underlying22 (hval 2 22 v2 rfl rfl)
  obtain ⟨z, rfl⟩ := open_agg8 (hval 0 26 v0 rfl rfl) h0
  obtain ⟨ei, rfl, rfl, rfl⟩ := open_bool Try.underlying4 (hval 1 4 v1 rfl rfl) h1
  clear hA0 hval0
  simp only [List.append_nil] at hW'
  have hlt : ∀ x ∈ p0 ++ p2, x.block < W.heap.size := fun x hx => by simpa using hW'.lt x hx
  have hrun : Calls Try.prog 5 #[aggZ z, .bool ei, .slice a0 len0 cap0] W fun e w' => e = .returned (.bool true) ∧ Below W.heap.size W w' := by
    obtain ⟨fuel, hf⟩ := h2
    rcases open_ints Try.underlying22 Try.underlying5 cells5 hf with ⟨hcs, _⟩ | ⟨a, len', cap', zs, hcs, _, hl, _, hz, _, hcell, hwz⟩
    · simp [Value.cells] at hcs
      obtain ⟨rfl, rfl, rfl⟩ := hcs
      exact calls_nil W ei z
    · simp [Value.cells] at hcs
      obtain ⟨rfl, rfl, rfl⟩ := hcs
      simp only [if_true] at hz
      by_cases h : len0 = 0
      · subst h; exact calls_emp W ei z a cap0
      · refine calls_some W ei z a len0 cap0 zs (by omega) hl hz hcell fun n hn => ?_
        have := hwz n hn
        simpa [Lit.wf, IntKind.min, IntKind.max, IntKind.signed, IntKind.bits] using this
  refine hrun.mono fun e W' ⟨he, hb⟩ => ?_
  subst he
  have harg0 : DataW.Trod enc Try.prog W' 0 (fun b => decide (b < W.heap.size)) true 26 (aggZ z) d0 p0 :=
    Below.trod laidOut (by kernel_rfl) (of_decide_eq_true (by kernel_rfl)) h0 hb (fun x hx => hlt x (List.mem_append_left _ hx))
  have harg2 : DataW.Trod enc Try.prog W' 0 (fun b => decide (b < W.heap.size)) true 22 (.slice a0 len0 cap0) d2 p2 :=
    Below.trod laidOut (by kernel_rfl) (of_decide_eq_true (by kernel_rfl)) h2 hb (fun x hx => hlt x (List.mem_append_right _ hx))
  exact ⟨_, rfl, ⟨_, _, _, [], _, [], hW', trodAll_mk1 (shut_bool Try.underlying4 _), by
      have h := trodAll_mk3 harg0 (shut_bool (enc := enc) (w := W') Try.underlying4 ei) harg2
      simp only [List.nil_append] at h
      exact h, rfl, hb.frame _, fun h => by cases h⟩⟩

theorem vexBack_holds : Rows.VexBackSaid :=
  OpenClaim.holds_of_wide 5 Try.f5 rfl rfl rfl rfl rfl rfl rfl ⟨rfl, rfl, rfl, rfl, rfl⟩ rfl rfl rfl rfl rfl (by kernel_rfl) Try.func5 (by kernel_rfl)
    (of_decide_eq_true (by kernel_rfl)) (by unfold Func.isWrapper; rw [if_neg (by decide +kernel)]; exact ⟨rfl, rfl⟩)
    (fun os started H enc _ => vexBack_lifted os started H enc)
#print axioms vexBack_holds
end Ev
end Go.Proofs.Ytlngklpiapbpmaa
