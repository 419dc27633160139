/- The evaluator's plain operations are the model's: constants, types, numbers, texts, comparisons; no theorem of the program yet; no conditions. -/
import Derived.Test.YtlngklpiapbpmaaEvE
set_option linter.unusedSimpArgs false
set_option linter.unusedVariables false
namespace Go.Ev
section
variable {ρ : Env} {μ : Mu}

mutual
theorem ofValue_spec : ∀ {v : Value} {a : AV}, ofValue v = some a → VR ρ μ a v
  | .bool b, a, h => by simp [ofValue] at h; subst h; rw [VR]; rfl
  | .int k n, a, h => by simp [ofValue] at h; subst h; rw [VR]; rfl
  | .string s, a, h => by
    simp [ofValue] at h; subst h
    rw [VR]
    refine ⟨s, rfl, by simp, ?_⟩
    rw [List.map_map]
    conv => lhs; rw [← List.map_id s.data.toList]
    apply List.map_congr_left
    intro b _
    simp [SE.den]
  | .pointer none, a, h => by simp [ofValue] at h; subst h; rw [VR]
  | .pointer (some _), a, h => by simp [ofValue] at h
  | .slice none 0 0, a, h => by simp [ofValue] at h; subst h; rw [VR]
  | .slice none (_ + 1) _, a, h => by simp [ofValue] at h
  | .slice none 0 (_ + 1), a, h => by simp [ofValue] at h
  | .slice (some _) _ _, a, h => by simp [ofValue] at h
  | .map none, a, h => by simp [ofValue] at h; subst h; rw [VR]
  | .map (some _), a, h => by simp [ofValue] at h
  | .func (.func f) ⟨x⟩ ⟨y⟩, a, h => by
    simp only [ofValue] at h
    split at h
    · rename_i x' y' h1 h2
      cases h
      rw [VR]
      exact ⟨.func f, ⟨x⟩, ⟨y⟩, rfl, rfl, ofValues_spec h1, ofValues_spec h2⟩
    · cases h
  | .func (.method _) ⟨_⟩ ⟨_⟩, a, h => by simp [ofValue] at h
  | .func (.methodOf _ _) ⟨_⟩ ⟨_⟩, a, h => by simp [ofValue] at h
  | .func (.via _ _ _ _) ⟨_⟩ ⟨_⟩, a, h => by simp [ofValue] at h
  | .func (.yield _) ⟨_⟩ ⟨_⟩, a, h => by simp [ofValue] at h
  | .nilFunc, a, h => by simp [ofValue] at h; subst h; rw [VR]
  | .iface t v, a, h => by
    simp only [ofValue] at h
    split at h
    · rename_i v' h1; cases h; rw [VR]; exact ⟨v, rfl, ofValue_spec h1⟩
    · cases h
  | .nilIface, a, h => by simp [ofValue] at h; subst h; rw [VR]
  | .agg ⟨cs⟩, a, h => by
    simp only [ofValue] at h
    split at h
    · rename_i v' h1; cases h; rw [VR]; exact ⟨⟨cs⟩, rfl, ofValues_spec h1⟩
    · cases h
  | .tuple ⟨cs⟩, a, h => by
    simp only [ofValue] at h
    split at h
    · rename_i v' h1; cases h; rw [VR]; exact ⟨⟨cs⟩, rfl, ofValues_spec h1⟩
    · cases h
  | .float _ _, a, h => by simp [ofValue] at h
  | .complex _ _ _, a, h => by simp [ofValue] at h
  | .chan _, a, h => by simp [ofValue] at h
theorem ofValues_spec : ∀ {vs : List Value} {as : List AV}, ofValues vs = some as → VRs ρ μ as vs
  | [], as, h => by simp [ofValues] at h; subst h; rw [VRs]
  | v :: vs, as, h => by
    simp only [ofValues] at h
    split at h
    · cases h
    · rename_i a h1
      split at h
      · cases h
      · rename_i as' h2
        cases h
        rw [VRs]
        exact ⟨v, vs, rfl, ofValue_spec h1, ofValues_spec h2⟩
end

/-! ### Types -/
variable {P : Program}

theorem tinfo_spec {t : Nat} {ti : TI} (h : tinfo P t = some ti) : ∃ i d z, P.info? t = some i ∧ P.underlying t = some d ∧ i.zero = some z ∧ ti.d = tdOf d ∧ ti.size = i.size ∧ ti.bytes = i.bytes ∧ ∀ ρ μ, VRs ρ μ ti.zero z.cells.toList := by
  unfold tinfo at h
  split at h
  · cases h
  · rename_i i hi
    split at h
    · cases h
    · rename_i d hd
      split at h
      · cases h
      · rename_i z hz
        split at h
        · cases h
        · rename_i z' hz'
          cases h
          exact ⟨i, d, z, hi, hd, hz, rfl, rfl, rfl, fun ρ μ => VR_cells (ofValue_spec hz')⟩

theorem tdR_spec {t : Nat} {ti : TI} (h : tdR P t = .ok ti) : tinfo P t = some ti := Res.ofO_eq_ok h

theorem td_bool {t : Nat} {ti : TI} (h : tinfo P t = some ti) (hd : ti.d = .bool) : P.underlying t = some .bool := by
  obtain ⟨i, d, z, _, h2, _, h4, _⟩ := tinfo_spec h
  rw [h4] at hd; rw [h2]; cases d <;> simp [tdOf] at hd; rfl
theorem td_int {t : Nat} {ti : TI} {k : IntKind} (h : tinfo P t = some ti) (hd : ti.d = .int k) : P.underlying t = some (.int k) := by
  obtain ⟨i, d, z, _, h2, _, h4, _⟩ := tinfo_spec h
  rw [h4] at hd; rw [h2]; cases d <;> simp [tdOf] at hd; rw [hd]
theorem td_str {t : Nat} {ti : TI} (h : tinfo P t = some ti) (hd : ti.d = .str) : P.underlying t = some .string := by
  obtain ⟨i, d, z, _, h2, _, h4, _⟩ := tinfo_spec h
  rw [h4] at hd; rw [h2]; cases d <;> simp [tdOf] at hd; rfl
theorem td_ptr {t : Nat} {ti : TI} {e : Nat} (h : tinfo P t = some ti) (hd : ti.d = .ptr e) : P.underlying t = some (.pointer e) := by
  obtain ⟨i, d, z, _, h2, _, h4, _⟩ := tinfo_spec h
  rw [h4] at hd; rw [h2]; cases d <;> simp [tdOf] at hd; rw [hd]
theorem td_slc {t : Nat} {ti : TI} {e : Nat} (h : tinfo P t = some ti) (hd : ti.d = .slc e) : P.underlying t = some (.slice e) := by
  obtain ⟨i, d, z, _, h2, _, h4, _⟩ := tinfo_spec h
  rw [h4] at hd; rw [h2]; cases d <;> simp [tdOf] at hd; rw [hd]
theorem td_arr {t : Nat} {ti : TI} {n e : Nat} (h : tinfo P t = some ti) (hd : ti.d = .arr n e) : P.underlying t = some (.array n e) := by
  obtain ⟨i, d, z, _, h2, _, h4, _⟩ := tinfo_spec h
  rw [h4] at hd; rw [h2]; cases d <;> simp [tdOf] at hd; rw [hd.1, hd.2]
theorem td_map {t : Nat} {ti : TI} {k e : Nat} (h : tinfo P t = some ti) (hd : ti.d = .map k e) : P.underlying t = some (.map k e) := by
  obtain ⟨i, d, z, _, h2, _, h4, _⟩ := tinfo_spec h
  rw [h4] at hd; rw [h2]; cases d <;> simp [tdOf] at hd; rw [hd.1, hd.2]
theorem td_iface {t : Nat} {ti : TI} (h : tinfo P t = some ti) (hd : ti.d = .iface) : ∃ ms, P.underlying t = some (.interface ms) := by
  obtain ⟨i, d, z, _, h2, _, h4, _⟩ := tinfo_spec h
  rw [h4] at hd; rw [h2]; cases d <;> simp [tdOf] at hd; exact ⟨_, rfl⟩
theorem td_struct {t : Nat} {ti : TI} {fs : List (Nat × Nat × Bool)} (h : tinfo P t = some ti) (hd : ti.d = .struct fs) :
    ∃ fields : Array Field, P.underlying t = some (.struct fields) ∧ fs = fields.toList.map fun f => (f.type, f.offset, decide (f.name ≠ "_")) := by
  obtain ⟨i, d, z, _, h2, _, h4, _⟩ := tinfo_spec h
  rw [h4] at hd; rw [h2]; cases d <;> simp [tdOf] at hd; exact ⟨_, rfl, by simp [← hd]⟩

theorem run_size {t : Nat} {ti : TI} (h : tinfo P t = some ti) (w : World) : (sizeOf t).run P w = .ok ti.size w := by
  obtain ⟨i, d, z, h1, _, _, _, h5, _⟩ := tinfo_spec h
  simp [sizeOf, typeInfo, h1, h5]
theorem run_isAgg {t : Nat} {ti : TI} (h : tinfo P t = some ti) (w : World) : (isAgg t).run P w = .ok ti.d.agg w := by
  obtain ⟨i, d, z, _, h2, _, h4, _⟩ := tinfo_spec h
  simp only [isAgg, underlying, h4]
  cases d <;> simp [tdOf, TD.agg, h2]
theorem run_und {t : Nat} {d : TypeDesc} (h : P.underlying t = some d) (w : World) : (underlying t).run P w = .ok d w := by simp [underlying, h]

/-! ### Operands -/
def EaR (ρ : Env) (μ : Mu) (op : Op) (ea : Operand → Res AV) (rv : Operand → Value) : Prop := ∀ x ∈ op.operands, ∀ a, ea x = .ok a → VR ρ μ a (rv x)

theorem argsA_spec {ea : Operand → Res AV} {rv : Operand → Value} : ∀ {xs : List Operand} {as : List AV}, (∀ x ∈ xs, ∀ a, ea x = .ok a → VR ρ μ a (rv x)) → argsA ea xs = .ok as → VRs ρ μ as (xs.map rv) := by
  intro xs
  induction xs with
  | nil => intro as _ h; simp [argsA] at h; subst h; exact VRs_nil.2 rfl
  | cons x xs ih =>
    intro as hx h
    simp only [argsA] at h
    obtain ⟨a, h1, h⟩ := Res.bind_eq_ok h
    obtain ⟨as', h2, h⟩ := Res.bind_eq_ok h
    cases h
    exact VRs_cons.2 ⟨rv x, xs.map rv, rfl, hx x (by simp) a h1, ih (fun y hy => hx y (by simp [hy])) h2⟩

def PartsR (ρ : Env) (μ : Mu) : List (Nat × AV) → List (Nat × Value) → Prop
  | [], vs => vs = []
  | (i, a) :: as, vs => ∃ v r, vs = (i, v) :: r ∧ VR ρ μ a v ∧ PartsR ρ μ as r

theorem partsA_spec {ea : Operand → Res AV} {rv : Operand → Value} : ∀ {xs : List (Nat × Operand)} {as : List (Nat × AV)}, (∀ x ∈ xs, ∀ a, ea x.2 = .ok a → VR ρ μ a (rv x.2)) → partsA ea xs = .ok as → PartsR ρ μ as (xs.map fun x => (x.1, rv x.2)) := by
  intro xs
  induction xs with
  | nil => intro as _ h; simp [partsA] at h; subst h; simp [PartsR]
  | cons x xs ih =>
    obtain ⟨i, x⟩ := x
    intro as hx h
    simp only [partsA] at h
    obtain ⟨a, h1, h⟩ := Res.bind_eq_ok h
    obtain ⟨as', h2, h⟩ := Res.bind_eq_ok h
    cases h
    exact ⟨rv x, _, rfl, hx (i, x) (by simp) a h1, ih (fun y hy => hx y (by simp [hy])) h2⟩

/-! ### Numbers -/
variable {pc : PC} {w : World}

theorem asI_spec {a : AV} {v : Value} {k : IntKind} {e : SE} (hp : pc.holds ρ) (hv : VR ρ μ a v) (h : asI pc a = .ok (k, e)) : v = .int k (e.den ρ) := by
  unfold asI at h
  split at h
  · cases h; rw [VR] at hv; rw [hv, nrm_spec hp]
  · cases h

theorem bitOp_eq (o : BOp) (op : BinOp) (k : IntKind) (x y : Int) (h : op = (match o with | .and => .and | .or => .or | .xor => .xor | .andNot => .andNot)) :
    (Op.intBits op k x y).run P w = .ok (.int k (bitOp o k x y)) w := by subst h; cases o <;> simp [Op.intBits, bitOp]

theorem run_shl (k yk : IntKind) (x : Int) (n : Nat) : (Op.shift .shl k x yk (n : Int)).run P w = .ok (.int k (k.wrap (x * 2 ^ (min n k.bits)))) w := by
  have h : ¬ ((n : Int) < 0) := by omega
  simp [Op.shift, h]
theorem run_shr (k yk : IntKind) (x : Int) (n : Nat) : (Op.shift .shr k x yk (n : Int)).run P w = .ok (.int k (x.fdiv (2 ^ (min n k.bits)))) w := by
  have h : ¬ ((n : Int) < 0) := by omega
  simp [Op.shift, h]

theorem min_ble (n m : Nat) : (bif Nat.ble n m then n else m) = min n m := by
  cases h : Nat.ble n m with
  | true => have := Nat.le_of_ble_eq_true h; simp [Nat.min_eq_left this]
  | false => have : ¬ n ≤ m := fun e => by rw [Nat.ble_eq_true_of_le e] at h; cases h
             simp [Nat.min_eq_right (by omega : m ≤ n)]

theorem same_spec {s : Bool} {v : Res AV} {r : AV} (h : same? s v = .ok r) : s = true ∧ v = .ok r := by
  cases s with
  | false => cases h
  | true => exact ⟨rfl, h⟩

theorem shA_spec {l : Bool} {k yk : IntKind} {a b : SE} {r : AV} (h : shA l k a b = .ok r) :
    ∃ y, (Op.shift (if l then .shl else .shr) k (a.den ρ) yk (b.den ρ)).run P w = .ok y w ∧ VR ρ μ r y := by
  unfold shA at h
  split at h
  · rename_i n
    simp only [min_ble] at h
    have hb : (SE.lit (Int.ofNat n)).den ρ = (n : Int) := rfl
    rw [hb]
    cases l with
    | true => cases h; exact ⟨_, run_shl _ _ _ _, by rw [VR, wrapE_den, shlE_den]⟩
    | false => cases h; exact ⟨_, run_shr _ _ _ _, by rw [VR, shrE_den]⟩
  · cases h

theorem divA_spec {q : Bool} {k : IntKind} {a b : SE} {r : AV} (hp : pc.holds ρ) (h : divA pc q k a b = .ok r) :
    ∃ y, (Op.intDiv (if q then .quo else .rem) k (a.den ρ) (b.den ρ)).run P w = .ok y w ∧ VR ρ μ r y := by
  unfold divA at h
  split at h
  · rename_i h1
    have h0 := dec_spec hp h1
    rw [eqE_den] at h0
    have hb : ¬ b.den ρ = 0 := by simpa [SE.den] using h0
    cases q with
    | true => cases h; exact ⟨.int k (k.wrap ((a.den ρ).tdiv (b.den ρ))), by simp [Op.intDiv, hb], by rw [VR, wrapE_den, quoE_den]⟩
    | false => cases h; exact ⟨.int k ((a.den ρ).tmod (b.den ρ)), by simp [Op.intDiv, hb], by rw [VR, remE_den]⟩
  · cases h
  · cases h

theorem binInt_spec {op : BinOp} {k l : IntKind} {a b : SE} {r : AV} (hp : pc.holds ρ) (h : binInt pc op k (ikBeq k l) a b = .ok r) (t : Nat) :
    ∃ y, (binOp op t (.int k (a.den ρ)) (.int l (b.den ρ))).run P w = .ok y w ∧ VR ρ μ r y := by
  cases op
  case shl => exact shA_spec (l := true) (yk := l) h
  case shr => exact shA_spec (l := false) (yk := l) h
  all_goals
    change same? _ _ = _ at h
    obtain ⟨h1, h2⟩ := same_spec h
    clear h
    have hkl := ikBeq_eq h1
    subst hkl
    simp only [binOp, ne_eq, not_true_eq_false, if_false]
  case quo => exact divA_spec (q := true) hp h2
  case rem => exact divA_spec (q := false) hp h2
  all_goals (cases h2)
  case add => exact ⟨_, rfl, by rw [VR, wrapE_den, addE_den]⟩
  case sub => exact ⟨_, rfl, by rw [VR, wrapE_den, subE_den]⟩
  case mul => exact ⟨_, rfl, by rw [VR, wrapE_den, mulE_den]⟩
  case and => exact ⟨_, bitOp_eq .and _ k _ _ rfl, by rw [VR, bitsE_den]⟩
  case or => exact ⟨_, bitOp_eq .or _ k _ _ rfl, by rw [VR, bitsE_den]⟩
  case xor => exact ⟨_, bitOp_eq .xor _ k _ _ rfl, by rw [VR, bitsE_den]⟩
  case andNot => exact ⟨_, bitOp_eq .andNot _ k _ _ rfl, by rw [VR, bitsE_den]⟩
  case eql => exact ⟨_, rfl, by rw [VR, eqE_den]⟩
  case neq => exact ⟨_, rfl, by rw [VR, notB_den, eqE_den]; rfl⟩
  case lss => exact ⟨_, rfl, by rw [VR, ltE_den]⟩
  case leq => exact ⟨_, rfl, by rw [VR, leE_den]⟩
  case gtr => exact ⟨_, rfl, by rw [VR, ltE_den]⟩
  case geq => exact ⟨_, rfl, by rw [VR, leE_den]⟩

theorem unA_spec {op : UnOp} {a r : AV} {v : Value} (hp : pc.holds ρ) (hv : VR ρ μ a v) (h : unA pc op a = .ok r) : ∃ y, (Op.unary op v).run P w = .ok y w ∧ VR ρ μ r y := by
  unfold unA at h
  split at h
  · cases h; rw [VR] at hv; subst hv; exact ⟨_, rfl, by rw [VR, notB_den]⟩
  · cases h; rw [VR] at hv; subst hv; exact ⟨_, rfl, by rw [VR, wrapE_den, subE_den, nrm_spec hp]; rfl⟩
  · cases h; rw [VR] at hv; subst hv
    rename_i k e
    exact ⟨_, bitOp_eq .xor .xor k _ _ rfl, by rw [VR, bitsE_den, nrm_spec hp]; rfl⟩
  · cases h

end
end Go.Ev
