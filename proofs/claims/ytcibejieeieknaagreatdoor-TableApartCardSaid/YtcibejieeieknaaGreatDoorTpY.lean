/- The hooks of TableApart hold of the model; no conditions. -/
import Derived.Test.YtcibejieeieknaaGreatDoorTpV
import Derived.Test.YtcibejieeieknaaGreatDoorTpX
import Derived.Test.YtcibejieeieknaaGreatDoorTqH
import Derived.Test.YtcibejieeieknaaGreatDoorTpC4
import Derived.Test.YtcibejieeieknaaGreatDoorTpD0
import Derived.Test.YtcibejieeieknaaGreatDoorTpD2
import Derived.Test.YtcibejieeieknaaGreatDoorTpD4
import Derived.Test.YtcibejieeieknaaGreatDoorTpD6
import Derived.Test.YtcibejieeieknaaGreatDoorTpE0
import Derived.Test.YtcibejieeieknaaGreatDoorTpP0
import Derived.Test.YtcibejieeieknaaGreatDoorTpP2
set_option linter.unusedSimpArgs false
set_option linter.unusedVariables false
namespace Go.Proofs.YtcibejieeieknaaGreatDoor
open Go.Ev
namespace Ev
/-! ### What holds of each form of the table -/
theorem mem_parts {α : Type} {p : α → Bool} : ∀ (n : Nat) {l : List α} {k : Nat}, (∀ i, i < k → ((l.drop (n * i)).take n).all p = true) → l.length ≤ n * k → l.all p = true := by
  intro n l k h hl
  rw [List.all_eq_true]
  intro x hx
  obtain ⟨j, hj, rfl⟩ := List.getElem_of_mem hx
  have hn : 0 < n := by
    rcases Nat.eq_zero_or_pos n with h0 | h0
    · rw [h0, Nat.zero_mul] at hl; omega
    · exact h0
  have hq : j / n < k := Nat.div_lt_of_lt_mul (Nat.lt_of_lt_of_le hj hl)
  have hm := Nat.div_add_mod j n
  have hlt := Nat.mod_lt j hn
  have := List.all_eq_true.1 (h (j / n) hq) l[j] (by
    rw [List.mem_iff_getElem?]
    refine ⟨j % n, ?_⟩
    rw [List.getElem?_take, if_pos hlt, List.getElem?_drop, hm, List.getElem?_eq_getElem hj])
  exact this

theorem tab_len : tabR.length = 834 := by kernel_rfl

theorem ckAll : tabR.all (chk1 16 okAV) = true := by
  refine mem_parts 105 (k := 8) ?_ (by rw [tab_len]; decide)
  intro i hi
  have : i = 0 ∨ i = 1 ∨ i = 2 ∨ i = 3 ∨ i = 4 ∨ i = 5 ∨ i = 6 ∨ i = 7 := by omega
  rcases this with rfl | rfl | rfl | rfl | rfl | rfl | rfl | rfl
  · exact ck0
  · exact ck1
  · exact ck2
  · exact ck3
  · exact ck4
  · exact ck5
  · exact ck6
  · exact ck7
theorem ccAll : tabR.all chk2 = true := by
  refine mem_parts 420 (k := 2) ?_ (by rw [tab_len]; decide)
  intro i hi
  have : i = 0 ∨ i = 1 := by omega
  rcases this with rfl | rfl
  · exact cc0
  · exact cc1
theorem rowCk {r : Row} (h : r ∈ tabR) : RowCk r :=
  ⟨List.all_eq_true.1 ccAll r h, List.all_eq_true.1 rowsOK r h, List.all_eq_true.1 cm r h, List.all_eq_true.1 cr r h, List.all_eq_true.1 cp r h⟩

theorem row2_spec {a : Row} {i : Nat} : ∀ {l : List Row} {s k : Nat} {b : Row}, row2 a i l s = true → l[k]? = some b → meetsB a b = Nat.beq i (s + k)
  | [], _, _, _, _, h => by simp at h
  | c :: l, s, k, b, h, hk => by
    simp only [row2, Bool.and_eq_true] at h
    cases k with
    | zero => simp at hk; subst hk; exact eq_of_beq h.1
    | succ k =>
      rw [List.getElem?_cons_succ] at hk
      have := row2_spec h.2 hk
      rw [this]
      congr 1; omega
theorem all2_spec : ∀ {l : List Row} {s k j : Nat} {a b : Row}, all2 l s = true → l[k]? = some a → tabR[j]? = some b → meetsB a b = Nat.beq (s + k) j
  | [], _, _, _, _, _, _, h, _ => by simp at h
  | c :: l, s, k, j, a, b, h, hk, hj => by
    have h : (row2 c s tabR 0 && all2 l (s + 1)) = true := h
    simp only [Bool.and_eq_true] at h
    cases k with
    | zero => simp at hk; subst hk; have := row2_spec h.1 hj; rw [Nat.zero_add] at this; exact this
    | succ k =>
      rw [List.getElem?_cons_succ] at hk
      have := all2_spec h.2 hk hj
      rw [this]
      congr 1; omega
theorem meet_eq {i j : Nat} {a b : Row} (ha : tabR[i]? = some a) (hb : tabR[j]? = some b) : meetsB a b = Nat.beq i j := by
  have hi : i < 834 := by rw [← tab_len]; exact (List.getElem?_eq_some_iff.1 ha).1
  have part : ∀ {q : Nat}, all2 ((tabR.drop (210 * q)).take 210) (210 * q) = true → 210 * q ≤ i → i < 210 * q + 210 → meetsB a b = Nat.beq i j := by
    intro q h h1 h2
    have := all2_spec (k := i - 210 * q) h (by rw [List.getElem?_take, if_pos (by omega), List.getElem?_drop, Nat.add_sub_cancel' h1]; exact ha) hb
    rw [Nat.add_sub_cancel' h1] at this
    exact this
  by_cases h1 : i < 210
  · exact part (q := 0) pa0 (by omega) (by omega)
  · by_cases h2 : i < 420
    · exact part (q := 1) pa1 (by omega) (by omega)
    · by_cases h3 : i < 630
      · exact part (q := 2) pa2 (by omega) (by omega)
      · exact part (q := 3) pa3 (by omega) (by omega)

section
variable {ρ : Env} {pc : PC} {μ : Mu} {h : H} {w : World} {us : Array Value}
theorem okSl_at {g : G} {nx : Nat} {s : AV} {l : List Int} {v : Value} (R : Rel ρ μ g nx w) (hg : ∀ id b, h.get id = some b → g id = some b) (hs : okSl h s l = true) (hv : VR ρ μ s v) : SlAt w v l ∧ (l ≠ [] → ∃ (b : Nat) (c : Array Value) (e : TypeId) (fr : Nat × Nat), w.heap[b]? = some (.cells c e fr)) := by
  unfold okSl at hs
  split at hs
  · rw [VR] at hv
    exact ⟨.inl ⟨rfl, hv⟩, fun h => absurd rfl h⟩
  · rename_i id off n ex cap es z zs
    simp only [Bool.and_eq_true] at hs
    obtain ⟨h1, h2, h3⟩ := hs
    have h1 := beq_eq h1
    have h2 := beq_eq h2
    subst h1; subst h2
    split at h3
    · rename_i cs hrd
      have h3 := avsBeq_eq h3
      subst h3
      obtain ⟨p, xs, c, e, fr, hp, ho, hsz, hfit, hxs, hxl, hc⟩ := rd_spec R (hg id) hrd
      rw [VR] at hv
      obtain ⟨p', cp, hp', rfl, _, q3, q4, q5⟩ := hv
      rw [hp] at hp'
      cases hp'
      refine ⟨.inr ⟨by simp, p.1, p.2.1 + off, cp, c, e, fr, rfl, by omega, by omega, ho, ?_⟩, fun _ => ⟨p.1, c, e, fr, ho⟩⟩
      intro i y hy
      obtain ⟨x, z1, z2⟩ := VRs_nth (j := i) (u := ii y) hxs (by rw [List.getElem?_map, hy]; rfl)
      rw [VR] at z2
      rw [hc i x z1, z2]; rfl
    · cases h3
  · cases hs

theorem okRow_at {g : G} {nx : Nat} {r : Row} {cs : List AV} {vs : List Value} (R : Rel ρ μ g nx w) (hg : ∀ id b, h.get id = some b → g id = some b) (ho : okRow h r cs = true) (hv : VRs ρ μ cs vs) :
    (∃ s1 s2, (Value.agg vs.toArray) = aggR r s1 s2 ∧ SlAt w s1 r.sh ∧ SlAt w s2 r.sl) ∧ (r.sh ≠ [] → ∃ (b : Nat) (c : Array Value) (e : TypeId) (fr : Nat × Nat), w.heap[b]? = some (.cells c e fr)) := by
  unfold okRow at ho
  split at ho
  · simp only [Bool.and_eq_true] at ho
    obtain ⟨h0, h1, h2, h3, h4, h5, h6, h7, h8, h9⟩ := ho
    have h0 := AV.beq_eq h0; have h3 := AV.beq_eq h3; have h4 := AV.beq_eq h4; have h5 := AV.beq_eq h5; have h6 := AV.beq_eq h6; have h7 := AV.beq_eq h7; have h8 := AV.beq_eq h8; have h9 := AV.beq_eq h9
    subst h0; subst h3; subst h4; subst h5; subst h6; subst h7; subst h8; subst h9
    simp only [VRs] at hv
    obtain ⟨y0, r0, rfl, q0, y1, r1, rfl, q1, y2, r2, rfl, q2, y3, r3, rfl, q3, y4, r4, rfl, q4, y5, r5, rfl, q5, y6, r6, rfl, q6, y7, r7, rfl, q7, y8, r8, rfl, q8, y9, r9, rfl, q9, rfl⟩ := hv
    simp only [VR] at q0 q3 q4 q5 q6 q7 q8 q9
    have a1 := okSl_at R hg h1 q1
    have a2 := okSl_at R hg h2 q2
    refine ⟨⟨y1, y2, ?_, a1.1, a2.1⟩, a1.2⟩
    rw [q0, q3, q4, q5, q6, q7, q8, q9]; rfl
  · cases ho

/-- Columns, at place j. -/
def VRcs (ρ : Env) (μ : Mu) : List (List AV) → Nat → List Value → Prop
  | [], _, vs => vs = []
  | c :: r, j, vs => ∃ y t, vs = y :: t ∧ VRn ρ μ c j y ∧ VRcs ρ μ r j t

theorem picksOf_spec {e : SE} : ∀ {ps : List AV} {cols : List (List AV)} {vs : List Value} {j : Nat}, picksOf e ps = some cols → VRs ρ μ ps vs → e.den ρ = j → VRcs ρ μ cols j vs
  | [], cols, vs, j, h, hv, _ => by cases h; exact VRs_nil.1 hv
  | a :: r, cols, vs, j, h, hv, he => by
    cases a <;> simp only [picksOf] at h <;> first | (cases h; done) | skip
    rename_i c x
    cases hb : x.beq e with
    | false => rw [hb] at h; cases h
    | true =>
      rw [hb, cond_true] at h
      have hx := SE.beq_eq hb
      subst hx
      cases hp : picksOf x r with
      | none => rw [hp] at h; cases h
      | some l =>
        rw [hp] at h
        cases h
        obtain ⟨y, t, rfl, h1, h2⟩ := VRs_cons.1 hv
        rw [VR] at h1
        obtain ⟨j', hj', h3, _⟩ := h1
        have : j' = j := by omega
        subst this
        exact ⟨y, t, rfl, h3, picksOf_spec hp h2 he⟩

theorem heads_spec : ∀ {cols : List (List AV)} {hs : List AV} {vs : List Value}, heads cols = some hs → VRcs ρ μ cols 0 vs → VRs ρ μ hs vs
  | [], hs, vs, h, hv => by cases h; exact VRs_nil.2 hv
  | [] :: _, hs, vs, h, _ => by simp [heads] at h
  | (c :: cs) :: r, hs, vs, h, hv => by
    simp only [heads] at h
    cases hp : heads r with
    | none => rw [hp] at h; cases h
    | some l =>
      rw [hp] at h
      cases h
      obtain ⟨y, t, rfl, h1, h2⟩ := hv
      exact VRs_cons.2 ⟨y, t, rfl, h1, heads_spec hp h2⟩
theorem tails_spec {j : Nat} : ∀ {cols : List (List AV)} {vs : List Value}, VRcs ρ μ cols (j + 1) vs → VRcs ρ μ (tails cols) j vs
  | [], vs, hv => hv
  | [] :: _, vs, hv => by obtain ⟨y, t, rfl, h1, _⟩ := hv; exact h1.elim
  | (c :: cs) :: r, vs, hv => by
    obtain ⟨y, t, rfl, h1, h2⟩ := hv
    exact ⟨y, t, rfl, h1, tails_spec h2⟩
theorem okCols_spec : ∀ {rows : List Row} {cols : List (List AV)} {vs : List Value} {j : Nat}, okCols h rows cols = true → cols ≠ [] → VRcs ρ μ cols j vs → ∃ r hs, rows[j]? = some r ∧ okRow h r hs = true ∧ VRs ρ μ hs vs
  | [], cols, vs, j, h1, hne, hv => by
    cases cols with
    | nil => exact absurd rfl hne
    | cons c r =>
      simp only [okCols, List.all_cons, Bool.and_eq_true] at h1
      obtain ⟨y, t, rfl, h2, _⟩ := hv
      cases c with
      | nil => exact h2.elim
      | cons a b => simp at h1
  | r :: rs, cols, vs, j, h1, hne, hv => by
    unfold okCols at h1
    split at h1
    · rename_i hs hh
      simp only [Bool.and_eq_true] at h1
      cases j with
      | zero => exact ⟨r, hs, rfl, h1.1, heads_spec hh hv⟩
      | succ j =>
        obtain ⟨r', hs', q1, q2, q3⟩ := okCols_spec (j := j) h1.2 (by cases cols with
          | nil => exact absurd rfl hne
          | cons c t => simp [tails]) (tails_spec hv)
        exact ⟨r', hs', by rw [List.getElem?_cons_succ]; exact q1, q2, q3⟩
    · cases h1

/-- The heads of columns that are a table: the first row's slices lie somewhere. -/
theorem tabOf_at {ps : List AV} {e : SE} {v : Value} (R : Rel ρ μ h.get h.next w) (ht : tabOf h ps = some e) (hv : VR ρ μ (.agg ps) v) : ∃ (j : Nat) (r : Row), e.den ρ = j ∧ tabR[j]? = some r ∧ RowAt w v r := by
  unfold tabOf at ht
  split at ht
  · rename_i e' he'
    split at ht
    · rename_i cols hcols
      rcases cond_eq ht with ⟨h1, h2⟩ | ⟨_, h2⟩
      · cases h2
        rw [VR] at hv
        obtain ⟨ys, rfl, hv⟩ := hv
        have hne : cols ≠ [] := by
          intro h0
          subst h0
          cases ps with
          | nil => simp [exprOf] at he'
          | cons a r =>
            cases a <;> simp only [picksOf] at hcols <;> first | (cases hcols; done) | skip
            rename_i c x
            cases hb : x.beq e with
            | false => rw [hb] at hcols; cases hcols
            | true =>
              rw [hb, cond_true] at hcols
              cases hp : picksOf e r with
              | none => rw [hp] at hcols; cases hcols
              | some l => rw [hp] at hcols; cases hcols
        obtain ⟨j, hj⟩ : ∃ j : Nat, e.den ρ = j := by
          cases ps with
          | nil => simp [exprOf] at he'
          | cons a r =>
            cases a <;> simp only [exprOf] at he' <;> first | (cases he'; done) | skip
            cases he'
            obtain ⟨y, t, _, h3, _⟩ := VRs_cons.1 hv
            rw [VR] at h3
            obtain ⟨j, hj, _⟩ := h3
            exact ⟨j, hj⟩
        obtain ⟨r, hs, q1, q2, q3⟩ := okCols_spec h1 hne (picksOf_spec hcols hv hj)
        have q4 := okRow_at R (fun _ _ h => h) q2 q3
        refine ⟨j, r, hj, q1, ⟨q4.1, ?_⟩⟩
        by_cases hsh : r.sh = []
        · -- another row's slice: the first one's
          have h0 : ∃ r0 rest, tabR = r0 :: rest ∧ r0.sh ≠ [] := ⟨_, _, rfl, by simp⟩
          obtain ⟨r0, rest, h0, h00⟩ := h0
          rw [h0] at h1
          unfold okCols at h1
          split at h1
          · rename_i hs0 hh0
            simp only [Bool.and_eq_true] at h1
            have h5 := h1.1
            unfold okRow at h5
            split at h5
            · simp only [Bool.and_eq_true] at h5
              have h6 := h5.2.1
              unfold okSl at h6
              split at h6
              · rename_i hnil; exact absurd hnil h00
              · simp only [Bool.and_eq_true] at h6
                have h7 := h6.2.2
                split at h7
                · rename_i cs hrd
                  obtain ⟨p, xs, c, ety, fr, hp, ho, _⟩ := rd_spec R (fun b h => h) hrd
                  exact ⟨p.1, c, ety, fr, ho⟩
                · cases h7
              · cases h6
            · cases h5
          · cases h1
        · exact q4.2 hsh
      · cases h2
    · cases ht
  · cases ht

theorem checkT_ok : FnOK Tryz.prog ρ (checkT pc) 16 := by
  intro args h v h' hr
  refine ⟨⟨_, Tryz.func16, by kernel_rfl, by kernel_rfl⟩, ?_⟩
  intro μ w us R hv
  unfold checkT at hr
  split at hr
  · rename_i ps
    split at hr
    · rename_i e he
      cases hr
      obtain ⟨y, r, e1, q1, q2⟩ := VRs_cons.1 hv
      rw [VRs_nil] at q2
      subst q2
      obtain ⟨j, row, hj, hrow, hat⟩ := tabOf_at R he q1
      have hm : row ∈ tabR := List.mem_of_getElem? hrow
      exact rowC (res := okAV) R hat (List.all_eq_true.1 ckAll row hm) e1 (fun μ1 μ2 x h => by unfold okAV at h ⊢; rw [VR] at h ⊢; exact h)
    · cases hr
  · cases hr

theorem meetsT_ok : FnOK Tryz.prog ρ (meetsT pc) 17 := by
  intro args h v h' hr
  refine ⟨⟨_, Tryz.func17, by kernel_rfl, by kernel_rfl⟩, ?_⟩
  intro μ w us R hv
  unfold meetsT at hr
  split at hr
  · rename_i ps qs
    split at hr
    · rename_i e f he hf
      cases hr
      obtain ⟨y, r, e1, q1, q2⟩ := VRs_cons.1 hv
      obtain ⟨y2, r2, rfl, q3, q4⟩ := VRs_cons.1 q2
      rw [VRs_nil] at q4
      subst q4
      obtain ⟨i, a, hi, ha, hata⟩ := tabOf_at R he q1
      obtain ⟨j, b, hj, hb, hatb⟩ := tabOf_at R hf q3
      have := meetsC R hata hatb (rowCk (List.mem_of_getElem? ha)) (rowCk (List.mem_of_getElem? hb)) e1
      rw [meets_eq, meet_eq ha hb] at this
      refine boolPost ?_ this
      simp only [SB.den, hi, hj]
      by_cases hij : i = j
      · subst hij; simp
      · have h1 : Nat.beq i j = false := by
          cases hb : Nat.beq i j with
          | false => rfl
          | true => exact absurd (beq_eq hb) hij
        rw [h1]
        symm
        exact beq_eq_false_iff_ne.2 (by omega)
    · cases hr
  · cases hr

set_option maxRecDepth 100000 in
theorem pk1 : isV (.int .i64 (.wrap .i64 (.add (.rem (.var 0) (.var 1)) (.var 1)))) (run Tryz.prog X0 pickLo 4000 14 pickArgs H0) = true := by kernel_rfl
set_option maxRecDepth 100000 in
theorem pk2 : isV (.int .i64 (.rem (.var 0) (.var 1))) (run Tryz.prog X0 pickHi 4000 14 pickArgs H0) = true := by kernel_rfl

def env (x y : Int) : Env := ⟨fun i => if i = 0 then x else y, fun _ l => match l with
  | [x, n] => pickI x n
  | _ => 0, fun _ _ => false⟩
theorem XApart_ok (hρ : ∀ x n, ρ.fn 0 [x, n] = pickI x n) : HooksOK Tryz.prog ρ XApart pc :=
  ((((X0_ok.with awake_ok).with rows_ok).with (pick_ok hmix (fun _ _ => X0_ok) rfl hρ ⟨_, Tryz.func14, by kernel_rfl, by kernel_rfl⟩ pk1 pk2)).with checkT_ok).with meetsT_ok

theorem case_apart {x y : Int} : ∃ pc ∈ pcsApart, PC.holds (env x y) pc := by
  have h0 := pickI_range (x := x) (n := 834) (by omega)
  have h1 := pickI_range (x := y) (n := 834) (by omega)
  have e0 : (eP 0).den (env x y) = pickI x 834 := by simp only [eP, SE.den, SE.dens]; rfl
  have e1 : (eP 1).den (env x y) = pickI y 834 := by simp only [eP, SE.den, SE.dens]; rfl
  have rest : PC.holds (env x y) [(.le (.lit (.ofNat 0)) (eP 0), true), (.lt (eP 0) (.lit (.ofNat 834)), true), (.le (.lit (.ofNat 0)) (eP 1), true), (.lt (eP 1) (.lit (.ofNat 834)), true)] := by
    refine holds_cons.2 ⟨?_, holds_cons.2 ⟨?_, holds_cons.2 ⟨?_, holds_cons.2 ⟨?_, PC.holds_nil⟩⟩⟩⟩
    · simp only [SB.den, e0]; exact decide_eq_true h0.1
    · simp only [SB.den, e0]; exact decide_eq_true h0.2
    · simp only [SB.den, e1]; exact decide_eq_true h1.1
    · simp only [SB.den, e1]; exact decide_eq_true h1.2
  by_cases h : pickI x 834 = pickI y 834
  · refine ⟨pcApart true, by simp [pcsApart], holds_cons.2 ⟨?_, holds_cons.2 ⟨?_, rest⟩⟩⟩
    · simp only [SB.den, e0, e1, h]; exact beq_self_eq_true _
    · simp only [SB.den, e0, e1, h]; exact beq_self_eq_true _
  · refine ⟨pcApart false, by simp [pcsApart], holds_cons.2 ⟨?_, holds_cons.2 ⟨?_, rest⟩⟩⟩
    · simp only [SB.den, e0, e1]; exact beq_eq_false_iff_ne.2 h
    · simp only [SB.den, e0, e1]; exact beq_eq_false_iff_ne.2 (fun h' => h h'.symm)
end
end Ev
end Go.Proofs.YtcibejieeieknaaGreatDoor
