/- The summaries of the seat hold of the model; and one of the cases of each law is there; no conditions. -/
import Derived.Test.YtadpecniibjnkaaDoorBitsT
import Derived.Test.YtadpecniibjnkaaDoorBitsHa
import Derived.Test.YtadpecniibjnkaaDoorBitsHb
import Derived.Test.YtadpecniibjnkaaDoorBitsHc
set_option linter.unusedSimpArgs false
set_option linter.unusedVariables false
namespace Go.Proofs.YtadpecniibjnkaaDoor
open Go.Ev
namespace Ev
theorem glok : glOK gl = true := by kernel_rfl
theorem hmix : Tryd.prog.follows .mixedOrders = true := Tryd.checked.mixed

section
variable {ρ : Env} {pc : PC}
theorem X0_ok : HooksOK Tryd.prog ρ X0 pc := XE_ok (P := Tryd.prog) (e := 72) (fn := Tryd.f72) Tryd.func72 (by kernel_rfl) (by kernel_rfl) (by kernel_rfl) (by kernel_rfl)
theorem chk51 : t51.all (chkEnt gl X0 Tryd.prog 4000 51) = true := by
  rw [← List.take_append_drop 10 t51, List.all_append, chk51a, chk51b]; rfl
theorem X1_ok : HooksOK Tryd.prog ρ X1 pc := X0_ok.with (sumTab_ok glok X0_ok rfl hmix ⟨_, Tryd.func51, by kernel_rfl, by kernel_rfl⟩ chk51)
theorem X2_ok : HooksOK Tryd.prog ρ X2 pc :=
  (X1_ok.with (sumTab_ok glok X1_ok rfl hmix ⟨_, Tryd.func9, by kernel_rfl, by kernel_rfl⟩ chk9)).with (sumTab_ok glok X0_ok rfl hmix ⟨_, Tryd.func11, by kernel_rfl, by kernel_rfl⟩ chk11)
theorem X3_ok : HooksOK Tryd.prog ρ X3 pc := X2_ok.with (sumTab_ok glok X2_ok rfl hmix ⟨_, Tryd.func13, by kernel_rfl, by kernel_rfl⟩ chk13)
theorem X4_ok : HooksOK Tryd.prog ρ X4 pc := X3_ok.with (sumTab_ok glok X3_ok rfl hmix ⟨_, Tryd.func5, by kernel_rfl, by kernel_rfl⟩ chk5)
theorem X5_ok (hρ : ∀ x n, ρ.fn 0 [x, n] = pickI x n) : HooksOK Tryd.prog ρ X5 pc := X4_ok.with (pick_ok hmix (fun _ _ => X0_ok) rfl hρ ⟨_, Tryd.func15, by kernel_rfl, by kernel_rfl⟩ pk1 pk2)
end

/-- Numbers, and what Pick tells of them. -/
def env (x y : Int) : Env := ⟨fun i => if i = 0 then x else y, fun g l => if g = 0 then (match l with
  | [x, n] => pickI x n
  | _ => 0) else 0, fun _ _ => false⟩
theorem env_pick {x y : Int} : ∀ a n, (env x y).fn 0 [a, n] = pickI a n := fun _ _ => rfl

theorem pk_holds {x y : Int} {i n r : Nat} (h : pickI (if i = 0 then x else y) n = r) : (pk i n r).1.den (env x y) = (pk i n r).2 := by
  show ((env x y).fn 0 [(env x y).v i, (n : Int)] == (r : Int)) = true
  rw [env_pick]
  have : (env x y).v i = if i = 0 then x else y := rfl
  rw [this, h]
  simp

theorem case1 {x y : Int} {n : Nat} (hn : 0 < n) : ∃ pc ∈ pcs1 n, PC.holds (env x y) pc := by
  have hr := pickI_range (x := x) (n := n) (by omega)
  obtain ⟨r, hr'⟩ : ∃ r : Nat, pickI x n = r := ⟨(pickI x n).toNat, by omega⟩
  refine ⟨[pk 0 n r], List.mem_map.2 ⟨r, List.mem_range.2 (by omega), rfl⟩, ?_⟩
  intro z hz
  obtain rfl := List.mem_singleton.1 hz
  exact pk_holds (by simpa using hr')

theorem case2 {x y : Int} : ∃ j, j < 5 ∧ ∃ pc ∈ pcsJ j, PC.holds (env x y) pc := by
  have hr := pickI_range (x := x) (n := 50) (by omega)
  have hs := pickI_range (x := y) (n := 50) (by omega)
  obtain ⟨r, hr'⟩ : ∃ r : Nat, pickI x 50 = r := ⟨(pickI x 50).toNat, by omega⟩
  obtain ⟨s, hs'⟩ : ∃ s : Nat, pickI y 50 = s := ⟨(pickI y 50).toNat, by omega⟩
  refine ⟨r / 10, by omega, [pk 0 50 r, pk 1 50 s], ?_, ?_⟩
  · refine List.mem_flatMap.2 ⟨r % 10, List.mem_range.2 (by omega), List.mem_map.2 ⟨s, List.mem_range.2 (by omega), ?_⟩⟩
    rw [Nat.div_add_mod]
  · intro z hz
    simp only [List.mem_cons, List.mem_nil_iff, or_false] at hz
    rcases hz with rfl | rfl
    · exact pk_holds (by simpa using hr')
    · exact pk_holds (by simpa using hs')

theorem caseOp {x y : Int} : ∃ pc ∈ pcsOp, PC.holds (env x y) pc := by
  by_cases h1 : x < 116
  · refine ⟨_, List.mem_cons_self, ?_⟩
    intro z hz
    obtain rfl := List.mem_singleton.1 hz
    show decide (x < 116) = true
    simpa using h1
  · by_cases h2 : 135 < x
    · refine ⟨_, List.mem_cons_of_mem _ List.mem_cons_self, ?_⟩
      intro z hz
      obtain rfl := List.mem_singleton.1 hz
      show decide (135 < x) = true
      simpa using h2
    · obtain ⟨r, hr⟩ : ∃ r : Nat, x = 116 + r := ⟨(x - 116).toNat, by omega⟩
      refine ⟨_, List.mem_cons_of_mem _ (List.mem_cons_of_mem _ (List.mem_map.2 ⟨r, List.mem_range.2 (by omega), rfl⟩)), ?_⟩
      intro z hz
      obtain rfl := List.mem_singleton.1 hz
      show (x == ((116 + r : Nat) : Int)) = true
      rw [hr]
      simp

end Ev
end Go.Proofs.YtadpecniibjnkaaDoor
