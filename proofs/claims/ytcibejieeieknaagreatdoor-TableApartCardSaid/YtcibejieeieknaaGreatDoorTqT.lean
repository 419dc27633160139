/- What the rows of this seat tell of strings.asciiSpace, in the evaluator's words; no theorem of the program yet; no conditions. -/
import Derived.Test.YtcibejieeieknaaGreatDoorTqA
import Derived.Test.YtcibejieeieknaaGreatDoorRows
import Derived.ProofKit
import Derived.OpenShut
import Derived.LaidMore
import Derived.Lay
set_option linter.unusedSimpArgs false
set_option linter.unusedVariables false
namespace Go.Proofs.YtcibejieeieknaaGreatDoor
open Go.Ev Go.ChangeShapes Go.WideShapes Go.ChangeAt Go.RowKit
namespace Ev

theorem own : ownKnob Tryz.prog.godebug = none := by kernel_rfl

abbrev laidAll : List (String × DataW Unit) := [("math/bits.deBruijn32tab", Rows.laid_math_bits_deBruijn32tab), ("math/bits.deBruijn64tab", Rows.laid_math_bits_deBruijn64tab), ("internal/strconv.uint64pow10", Rows.laid_internal_strconv_uint64pow10), ("unicode/utf8.acceptRanges", Rows.laid_unicode_utf8_acceptRanges), ("strconv.ErrRange", Rows.laid_strconv_ErrRange), ("strconv.ErrSyntax", Rows.laid_strconv_ErrSyntax), ("unicode.White_Space", Rows.laid_unicode_White_Space), ("strings.asciiSpace", Rows.laid_strings_asciiSpace), ("unicode/utf8.first", Rows.laid_unicode_utf8_first)]

def asciiNs : List Nat := List.replicate 9 0 ++ (List.replicate 5 1 ++ (List.replicate 18 0 ++ 1 :: List.replicate 223 0))

theorem gl_eq : gl = [(0, 5, asciiNs.map by8)] := by kernel_rfl
theorem laid_eq : (Rows.laid_strings_asciiSpace : DataW Unit) = .agg (asciiNs.map fun (n : Nat) => DataW.lit (Lit.int .u8 n)) := by kernel_rfl
theorem len_eq : asciiNs.length = 256 := by kernel_rfl

theorem holdsG {W : World} (h : laidMetH Tryz.prog laidAll W) : HoldsG gl W := by
  rw [MakeChecks.laidMetH_plain _ _ _ (by kernel_rfl)] at h
  obtain ⟨ps, h, _, _⟩ := h
  obtain ⟨_, _, _, _, _, _, _, _, _, _, h, _⟩ := h
  obtain ⟨_, _, _, _, _, _, _, _, _, _, h, _⟩ := h
  obtain ⟨_, _, _, _, _, _, _, _, _, _, h, _⟩ := h
  obtain ⟨_, _, _, _, _, _, _, _, _, _, h, _⟩ := h
  obtain ⟨_, _, _, _, _, _, _, _, _, _, h, _⟩ := h
  obtain ⟨_, _, _, _, _, _, _, _, _, _, h, _⟩ := h
  obtain ⟨_, _, _, _, _, _, _, _, _, _, h, _⟩ := h
  obtain ⟨g, t, cs, fuel, p, q, hg, ht, hv, hd, _, _⟩ := h
  obtain rfl := Option.some.inj ((show Tryz.prog.globalNamed "strings.asciiSpace" = some 0 by kernel_rfl).symm.trans hg)
  obtain rfl := Option.some.inj ((show (Tryz.prog.globals[0]?).map (·.type) = some 113 by kernel_rfl).symm.trans ht)
  obtain ⟨xs, m, _, ex, _, hl, hel⟩ := DataW.trod_array Tryz.underlying113 hd
  have c5 : Tryz.prog.cellsOf 5 = 1 := by kernel_rfl
  rw [laid_eq] at ex
  have e3 : (xs.map (·.1)) = asciiNs.map fun (n : Nat) => DataW.lit (Lit.int .u8 n) := (DataW.agg.inj (Prod.mk.inj ex).1).symm
  have cell : ∀ (r n : Nat), asciiNs[r]? = some n → cs[r]? = some (Value.int .u8 n) := by
    intro r n hn
    have hr : r < 256 := by rw [← len_eq]; exact (List.getElem?_eq_some_iff.1 hn).1
    have hE := hel r hr
    rw [c5, Nat.mul_one, List.getElem?_eq_getElem (by omega)] at hE
    obtain ⟨z, e1, e2, _⟩ := DataW.trod_int Tryz.underlying5 hE
    have e4 : (xs.map (·.1))[r]? = (asciiNs.map fun (n : Nat) => (DataW.lit (Lit.int .u8 n) : DataW Unit))[r]? := by rw [e3]
    rw [List.getElem?_map, List.getElem?_map, List.getElem?_eq_getElem (by omega : r < xs.length), hn] at e4
    simp only [Option.map_some, Option.some.injEq] at e4
    rw [e2] at e4
    have hz : z = n := by simpa using e4
    subst hz
    have h0 : ((cs.toList.drop r).take 1)[0]? = some (.int .u8 (n : Int)) := by rw [e1]; rfl
    simpa using h0
  have hh : ∃ ty fr, W.heap[0]? = some (.cells cs ty fr) := by
    unfold World.var? at hv
    rw [hg] at hv
    simp only [Option.bind_some] at hv
    split at hv
    · rename_i c ty fr ho
      cases hv
      exact ⟨ty, fr, ho⟩
    · cases hv
  obtain ⟨ty, fr, ho⟩ := hh
  intro x hx
  rw [gl_eq] at hx
  obtain rfl := List.mem_singleton.1 hx
  refine ⟨by decide, cs, ty, fr, ho, ?_, ?_⟩
  · simp only [List.length_map, len_eq]
    have h1 := cell 255 0 (by kernel_rfl)
    have := (Array.getElem?_eq_some_iff.1 h1).1
    omega
  · intro j v hj
    simp only [List.getElem?_map] at hj
    cases hn : asciiNs[j]? with
    | none => rw [hn] at hj; cases hj
    | some n =>
      rw [hn] at hj
      cases hj
      exact ⟨_, cell j n hn, fun ρ μ => by simp [by8, VR, SE.den]⟩

end Ev
end Go.Proofs.YtcibejieeieknaaGreatDoor
