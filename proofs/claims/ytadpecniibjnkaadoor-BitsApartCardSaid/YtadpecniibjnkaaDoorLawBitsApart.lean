/- BitsApart holds for every input, of a program whose package variables start as its text lays them; no other conditions. -/
import Derived.Test.YtadpecniibjnkaaDoorBitsH
import Derived.Test.YtadpecniibjnkaaDoorLawApA
import Derived.Test.YtadpecniibjnkaaDoorLawApB
import Derived.Test.YtadpecniibjnkaaDoorTie
import Derived.Test.YtadpecniibjnkaaDoorCards
import Derived.SevenTiedAt
import Derived.Stop.Joined
set_option linter.unusedSimpArgs false
set_option linter.unusedVariables false
namespace Go.Proofs.YtadpecniibjnkaaDoor
open Go.Ev Go.ChangeShapes Go.WideShapes Go.ChangeAt Go.RowKit
namespace Ev
theorem apartR : ∀ j, j < 5 → (pcsJ j).all (fun pc => isT pc (run Tryd.prog X5 pc 4000 6 [.int .i64 (.var 0), .int .i64 (.var 1)] (HG gl))) = true
  | 0, _ => apart0
  | 1, _ => apart1
  | 2, _ => apart2
  | 3, _ => apart3
  | 4, _ => apart4
  | n + 5, h => by omega

set_option maxRecDepth 100000 in
theorem bitsApart_lifted (os : Os) (started : os.Started) (H : Type) (enc : TypeId × Value → H) :
    ReturnsInHanded {} Tryd.checked os 6 .any (fun w args => (Rows.bitsApartSpec.pre enc Tryd.prog Tryd.f6 Rows.bitsApartRow.domain false w args ∧ laidMetH Tryd.prog laidAll w) ∧ sizedMet enc Tryd.prog Tryd.f6 (OpenSpec.ofChange Rows.bitsApartSpec) false w args)
      (Rows.bitsApartSpec.post enc Tryd.prog Tryd.f6 false true false false) := by
  refine returnsInHanded_of_change_and (C := Tryd.checked) (X := fun w _ => laidMetH Tryd.prog laidAll w) (fun _ _ _ hh h => h.of_heap hh) own started (by kernel_rfl) Tryd.func6
    (ChangeSpec.witness_shaped (enc := enc) (C := Tryd.checked) (os := os) (X := fun w _ => laidMetH Tryd.prog laidAll w) false (World.laidAll Tryd.prog os laidAll) #[.int .i64 0, .int .i64 0] 8 (World.laidAll_os _ _ _)
      (World.shaped_of_ZipB (by kernel_rfl) (by kernel_rfl)) (by kernel_rfl) (by kernel_rfl) (by kernel_rfl)
      (by rw [MakeChecks.laidMetH_plain _ _ _ (by kernel_rfl)]; exact laidMet_laidAll _ (by kernel_rfl) (by kernel_rfl))) ?_
  intro W base args ds gs before hval0 hW _ _ hL _
  have hval : ∀ (j : Nat) t v, Tryd.f6.params[j]? = some t → args[j]? = some v → Value.okWide Tryd.prog W .any base t v := hval0
  have hW' := hW
  obtain ⟨p, q, hA0, hV, rfl, _, _⟩ := hW
  have hA : DataW.TrodAll enc Tryd.prog W 0 (fun _ => true) true Tryd.f6.params.toList args.toList ds p := hA0
  rw [Tryd.params6] at hA hval
  obtain ⟨v0, v1, d0, d1, p0, p1, rfl, rfl, rfl, h0, h1⟩ := trodAll_two hA
  obtain ⟨rfl, rfl⟩ := trodVars_none hV
  obtain ⟨x0, rfl, rfl, rfl, w0⟩ := open_int Tryd.underlying3 (hval 0 3 v0 rfl rfl) h0
  obtain ⟨x1, rfl, rfl, rfl, w1⟩ := open_int Tryd.underlying3 (hval 1 3 v1 rfl rfl) h1
  clear hA0
  simp only [List.append_nil] at hW'
  have hG := holdsG hL
  have hrun : Calls Tryd.prog 6 #[.int .i64 x0, .int .i64 x1] W fun e W' => e = .returned (.bool true) ∧ W.keptBut W' (fun _ => False) := by
    obtain ⟨j, hj, hc⟩ := case2 (x := x0) (y := x1)
    exact calls_cases (ρ := env x0 x1) hmix (fun pc => X5_ok env_pick) rfl (apartR j hj) hc (VRs_cons.2 ⟨_, _, rfl, by rw [VR]; rfl, VRs_cons.2 ⟨_, _, rfl, by rw [VR]; rfl, VRs_nil.2 rfl⟩⟩) hG
  refine hrun.mono fun e W' ⟨he, hb⟩ => ?_
  subst he
  exact ⟨_, rfl, ⟨_, _, _, [], _, [], hW', trodAll_mk1 (shut_bool Tryd.underlying4 _), trodAll_mk2 (shut_int Tryd.underlying3 w0) (shut_int Tryd.underlying3 w1), rfl, World.keptBut_mono (fun _ f => f.elim) hb, fun h => by cases h⟩⟩

theorem bitsApart_row : Rows.BitsApartSaid :=
  OpenClaim.holds_of_wide 6 Tryd.f6 rfl rfl rfl rfl rfl rfl rfl ⟨rfl, rfl, rfl, rfl, rfl⟩ rfl rfl rfl rfl rfl (by kernel_rfl) Tryd.func6 (by kernel_rfl)
    (of_decide_eq_true (by kernel_rfl)) (by unfold Func.isWrapper; rw [if_neg (by decide +kernel)]; exact ⟨rfl, rfl⟩)
    (fun os started H enc _ => bitsApart_lifted os started H enc)

theorem bitsApart_holds : Rows.BitsApartCardSaid :=
  Claim7.holds_tied_plain_at .later [] [.data, .data, .data, .data, .sentinel, .sentinel, .listed, .data, .pinned] true (true, "31e921152ed6d181e8d1bf07728ad64ff27eee67345246f5f07b55a1b229e6a8") true bitsApart_row (fun _ h => by cases h) (by kernel_rfl) (fun _ h => by cases h) bitsApart_row_tie rfl ⟨rfl, rfl⟩ (by kernel_rfl) rfl
    (fun f fn hf hfn => by
      obtain rfl : f = 6 := Option.some.inj ((show Tryd.prog.funcNamed "linotype/linotypelaw16.BitsApart" = some 6 by kernel_rfl).symm.trans hf) |>.symm
      obtain rfl : fn = Tryd.f6 := (Option.some.inj (Tryd.func6.symm.trans hfn)).symm
      exact ⟨by kernel_rfl, fun j t ht => by
        rw [Tryd.params6] at ht
        have hm : t ∈ ([3, 3] : List TypeId) := by simpa using Array.mem_of_getElem? ht
        have hall : (([3, 3] : List TypeId).all fun u => !Tryd.prog.wantsStandIn u) = true := by kernel_rfl
        exact (show Tryd.prog.wantsStandIn t = false by simpa using List.all_eq_true.1 hall t hm)⟩)
    (by kernel_rfl)
#print axioms bitsApart_holds

end Ev
end Go.Proofs.YtadpecniibjnkaaDoor
