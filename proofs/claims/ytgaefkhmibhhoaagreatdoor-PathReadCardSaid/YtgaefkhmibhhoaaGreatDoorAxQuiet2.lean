/- A part of the proof that rubriclaw22.PathRead returns true for every text. -/
import Derived.Test.YtgaefkhmibhhoaaGreatDoorAxQuiet
set_option linter.unusedSimpArgs false
set_option linter.unusedVariables false
namespace Go.AX
open Go
section
variable {P : Program} {w : World} {NG B : Nat} {ρ : Map} {h : Heap}

theorem eqIn_sound {c : Bool} {t : TypeId} {x y x' y' : Value} {b : Bool} (hb : eqVals P c t x y = some b) (hx : VR ρ x x') (hy : VR ρ y y') (d d' : Nat) (hd : d = d' + 1) :
    (Op.equalIn (d + 1) t x' y').run P w = .ok b w := by
  unfold eqVals at hb
  split at hb
  · rename_i a c hu; cases hx; cases hy; cases hb; simp [Op.equalIn, run_und hu]
  · rename_i e a hu
    cases hx
    cases hb
    cases hy <;> simp [Op.equalIn, run_und hu]
  · rename_i e a hu
    cases hx; cases hy; cases hb; simp [Op.equalIn, run_und hu]
  · rename_i e a c hu
    split at hb
    · rename_i n hn
      split at hb
      · rename_i h0
        split at hb
        · rename_i hc
          obtain ⟨h1, h2, h3⟩ := hc
          cases hx with
          | ptr x o l hl =>
            cases hy with
            | ptr y o' l' hl' =>
              simp only at h1; subst h1
              rw [hl] at hl'; cases hl'
              cases hb
              have e1 : (Op.equalIn (d + 1) t (.pointer (some ⟨l.b, l.base + o, none⟩)) (.pointer (some ⟨l.b, l.base + o', none⟩))).run P w = (if n ≠ 0 then sameAddr ⟨l.b, l.base + o, none⟩ ⟨l.b, l.base + o', none⟩ else if (⟨l.b, l.base + o, none⟩ : Addr) == ⟨l.b, l.base + o', none⟩ then pure true else (do pure (decide ((← choose .zeroSizeEq) = 1)))).run P w := by
                simp only [Op.equalIn, Sem.run_bind, run_und hu, run_size hn, Result.andThen_ok]
              rw [e1, if_pos h0]
              have e2 : ((⟨l.b, l.base + o, none⟩ : Addr) == ⟨l.b, l.base + o', none⟩) = (o == o') := by
                by_cases e : o = o'
                · subst e; simp
                · rw [beq_eq_false_iff_ne.2 e]
                  refine beq_eq_false_iff_ne.2 fun h => ?_
                  injection h with _ h2
                  omega
              simp only [sameAddr, beq_self_eq_true, if_true, e2]
              rfl
        · cases hb
      · cases hb
    · cases hb
  · rename_i e a l c hu; cases hx; cases hb; cases hy <;> simp [Op.equalIn, run_und hu]
  · rename_i e a l c l' c' hu; cases hx; cases hy; cases hb; simp [Op.equalIn, run_und hu]
  · rename_i hu; cases hx; cases hy; cases hb; simp [Op.equalIn, run_und hu]
  · rename_i hu; cases hx; cases hy; cases hb; simp [Op.equalIn, run_und hu]
  · rename_i hu; cases hx; cases hy; cases hb; simp [Op.equalIn, run_und hu]
  · rename_i hu; cases hx; cases hy; cases hb; simp [Op.equalIn, run_und hu]
  · rename_i hu; cases hx; cases hy; cases hb; simp [Op.equalIn, run_und hu]
  · rename_i hu
    cases hx; cases hy
    split at hb
    · cases hb; simp [Op.equalIn, run_und hu]
    · cases hb
  · rename_i fs xs ys hu
    split at hb
    · cases hb
    · rename_i hc
      simp only [Bool.or_eq_true, not_or, Bool.not_eq_true] at hc
      obtain ⟨xs', rfl, hxs⟩ := hx.agg_inv
      obtain ⟨ys', rfl, hys⟩ := hy.agg_inv
      have hf : P.fieldsOf t = fs := by simp [Program.fieldsOf, hu]
      have := eqFlat_sound (P := P) (w := w) d' fs.toList hxs hys hb
      rw [run_equalIn_struct w d t xs' ys' (by rw [hf]; exact hu) hc.1, hf, hd]
      exact this
  · cases hb

theorem eqVals_sound {c : Bool} {t : TypeId} {x y x' y' : Value} {b : Bool} (hb : eqVals P c t x y = some b) (hx : VR ρ x x') (hy : VR ρ y y') :
    (Op.equal t x' y').run P w = .ok b w := eqIn_sound hb hx hy 9999 9998 rfl

/-- The guard of a comparison lets what is told here pass. -/
theorem eqGuard_pass {op : BinOp} {t : TypeId} {x y : Value} {X Y : Operand} (h1 : x = .nilIface → y = .nilIface → (Region.isConst X || Region.isConst Y) = true)
    (h2 : ∀ a b, x = .agg a → y = .agg b → P.eqGuardType P.depth t = false) : (eqGuard op t X Y x y).run P w = .ok () w := by
  unfold eqGuard
  generalize Op.maxDepth = D
  cases op <;> first | rfl | skip
  all_goals
    rw [if_neg (by decide)]
    cases x with
    | nilIface =>
      cases y with
      | nilIface =>
        have := h1 rfl rfl
        cases X <;> cases Y <;> first | rfl | cases this
      | _ => rfl
    | agg a =>
      cases y with
      | agg b =>
        have := h2 _ _ rfl rfl
        simp [this]
      | _ => rfl
    | _ => rfl

theorem eqVals_guard {c : Bool} {t : TypeId} {x y x' y' : Value} {b : Bool} (hb : eqVals P c t x y = some b) (hx : VR ρ x x') (hy : VR ρ y y') :
    (x' = .nilIface → y' = .nilIface → c = true) ∧ (∀ a b, x' = .agg a → y' = .agg b → P.eqGuardType P.depth t = false) := by
  constructor
  · rintro rfl rfl
    cases hx; cases hy
    cases hu : P.underlying t with
    | none => simp [eqVals, hu] at hb
    | some d =>
      cases d <;> simp [eqVals, hu] at hb
      exact hb.1
  · rintro a b' rfl rfl
    cases hx; cases hy
    cases hu : P.underlying t with
    | none => simp [eqVals, hu] at hb
    | some d =>
      cases d <;> simp only [eqVals, hu, reduceCtorEq] at hb
      split at hb
      · cases hb
      · rename_i hc; simp only [Bool.or_eq_true, not_or, Bool.not_eq_true] at hc; exact hc.2

theorem eq_sound {op : BinOp} {t : TypeId} {x y x' y' : Value} {X Y : Operand} {b : Bool} (hb : eqVals P (Region.isConst X || Region.isConst Y) t x y = some b) (hx : VR ρ x x') (hy : VR ρ y y') :
    (eqGuard op t X Y x' y').run P w = .ok () w :=
  eqGuard_pass (eqVals_guard hb hx hy).1 (eqVals_guard hb hx hy).2

def eqKind : Value → Bool
  | .bool _ | .pointer _ | .slice .. | .func .. | .nilFunc | .nilIface | .iface .. | .agg _ => true
  | _ => false
theorem eqKind_of {c : Bool} {t : TypeId} {x y : Value} {b : Bool} (hb : eqVals P c t x y = some b) : eqKind x = true := by
  cases hu : P.underlying t with
  | none => simp [eqVals, hu] at hb
  | some d => cases x <;> first | rfl | (cases d <;> simp [eqVals, hu] at hb)
theorem VR.eqKind {v v' : Value} (h : VR ρ v v') : AX.eqKind v' = AX.eqKind v := by cases h <;> rfl
theorem binOp_eql {t : TypeId} {x : Value} (h : eqKind x = true) (y : Value) : binOp .eql t x y = (do pure (.bool (← Op.equal t x y))) := by
  cases x <;> first | (cases h; done) | (cases y <;> rfl)
theorem binOp_neq {t : TypeId} {x : Value} (h : eqKind x = true) (y : Value) : binOp .neq t x y = (do pure (.bool (!(← Op.equal t x y)))) := by
  cases x <;> first | (cases h; done) | (cases y <;> rfl)

theorem binV_sound {op : BinOp} {t : TypeId} {x y x' y' v : Value} {X Y : Operand} (hv : binV P (Region.isConst X || Region.isConst Y) op t x y = some v) (hx : VR ρ x x') (hy : VR ρ y y') :
    ∃ v', ((do eqGuard op t X Y x' y'; binOp op t x' y' : Sem Value)).run P w = .ok v' w ∧ VR ρ v v' := by
  have noguard : ∀ {x' y' : Value}, (x' ≠ .nilIface) → (∀ a, x' ≠ .agg a) → (eqGuard op t X Y x' y').run P w = .ok () w := fun h1 h2 => eqGuard_pass (fun h _ => absurd h h1) (fun a _ h _ => absurd h (h2 a))
  unfold binV at hv
  split at hv
  · -- shl
    rename_i k a k' b
    cases hx; cases hy
    split at hv
    · cases hv
    · rename_i hb
      cases hv
      refine ⟨_, ?_, .int _ _⟩
      simp only [Sem.run_bind, noguard (x' := .int k a) (by simp) (by simp), Result.andThen_ok, binOp, Op.shift, if_neg hb]
      rfl
  · rename_i k a k' b
    cases hx; cases hy
    split at hv
    · cases hv
    · rename_i hb
      cases hv
      refine ⟨_, ?_, .int _ _⟩
      simp only [Sem.run_bind, noguard (x' := .int k a) (by simp) (by simp), Result.andThen_ok, binOp, Op.shift, if_neg hb]
      rfl
  · rename_i k a k' b h1 h2
    cases hx; cases hy
    split at hv
    · cases hv
    · rename_i hk
      simp only [ne_eq, Decidable.not_not] at hk
      subst hk
      simp only [Sem.run_bind, noguard (x' := .int k a) (by simp) (by simp), Result.andThen_ok]
      have e : ∀ z, op ≠ .shl → op ≠ .shr → (match op with
        | .add | .sub | .mul => Op.intArith op k a b
        | .quo | .rem => Op.intDiv op k a b
        | .and | .or | .xor | .andNot => Op.intBits op k a b
        | _ => Op.intCmp op a b : Sem Value).run P w = z → (binOp op t (.int k a) (.int k b)).run P w = z := by
        intro z g1 g2 hz
        cases op <;> first | exact absurd rfl g1 | exact absurd rfl g2 | (simpa [binOp] using hz)
      cases op <;> simp only at hv
      case add => cases hv; exact ⟨_, e _ (by simp) (by simp) rfl, .int _ _⟩
      case sub => cases hv; exact ⟨_, e _ (by simp) (by simp) rfl, .int _ _⟩
      case mul => cases hv; exact ⟨_, e _ (by simp) (by simp) rfl, .int _ _⟩
      case quo =>
        split at hv
        · cases hv
        · rename_i h0; cases hv; exact ⟨_, e _ (by simp) (by simp) (by simp only [Op.intDiv, if_neg h0]; rfl), .int _ _⟩
      case rem =>
        split at hv
        · cases hv
        · rename_i h0; cases hv; exact ⟨_, e _ (by simp) (by simp) (by simp only [Op.intDiv, if_neg h0]; rfl), .int _ _⟩
      case and => cases hv; exact ⟨_, e _ (by simp) (by simp) rfl, .int _ _⟩
      case or => cases hv; exact ⟨_, e _ (by simp) (by simp) rfl, .int _ _⟩
      case xor => cases hv; exact ⟨_, e _ (by simp) (by simp) rfl, .int _ _⟩
      case andNot => cases hv; exact ⟨_, e _ (by simp) (by simp) rfl, .int _ _⟩
      case eql => cases hv; exact ⟨_, e _ (by simp) (by simp) rfl, .bool _⟩
      case neq => cases hv; exact ⟨_, e _ (by simp) (by simp) rfl, .bool _⟩
      case lss => cases hv; exact ⟨_, e _ (by simp) (by simp) rfl, .bool _⟩
      case leq => cases hv; exact ⟨_, e _ (by simp) (by simp) rfl, .bool _⟩
      case gtr => cases hv; exact ⟨_, e _ (by simp) (by simp) rfl, .bool _⟩
      case geq => cases hv; exact ⟨_, e _ (by simp) (by simp) rfl, .bool _⟩
      all_goals cases hv
  · rename_i a b
    cases hx; cases hy
    simp only [Sem.run_bind, noguard (x' := .string a) (by simp) (by simp), Result.andThen_ok]
    have e : ∀ z, op ≠ .shl → op ≠ .shr → (Op.stringOp op a b).run P w = z → (binOp op t (.string a) (.string b)).run P w = z := by
      intro z g1 g2 hz
      cases op <;> first | exact absurd rfl g1 | exact absurd rfl g2 | (simpa [binOp] using hz)
    cases op <;> simp only at hv
    case add =>
      split at hv
      · rename_i hs
        cases hv
        refine ⟨.string (a ++ b), e _ (by simp) (by simp) ?_, ?_⟩
        · simp only [Op.stringOp]
          rw [if_neg]
          · rfl
          · simp only [small, bl_length] at hs
            have := Nat.le_of_ble_eq_true hs
            have h3 : (IntKind.i64.max) = 2 ^ 63 - 1 := rfl
            rw [h3]
            have h4 : (2 * a.size + 8) * (1 + b.size + 1) ≥ (2 * a.size + 8) * 1 := Nat.mul_le_mul_left _ (by omega)
            have h5 : (2 * a.size + 8) * (1 + b.size + 1) ≥ 8 * (1 + b.size + 1) := Nat.mul_le_mul_right _ (by omega)
            generalize (2 * a.size + 8) * (1 + b.size + 1) = c at *
            omega
        · have : (⟨(bl a ++ bl b).toArray⟩ : ByteArray) = a ++ b := by
            rw [← mk_bl (a ++ b)]
            have : bl (a ++ b) = bl a ++ bl b := by simp [bl]
            rw [this]
          rw [this]; exact .string _
      · cases hv
    case eql => cases hv; exact ⟨_, e _ (by simp) (by simp) (by simp only [Op.stringOp, bl_eq]; rfl), .bool _⟩
    case neq => cases hv; exact ⟨_, e _ (by simp) (by simp) (by simp only [Op.stringOp, bl_eq]; rfl), .bool _⟩
    case lss => cases hv; exact ⟨_, e _ (by simp) (by simp) (by simp only [Op.stringOp, bl_eq]; rfl), .bool _⟩
    case leq => cases hv; exact ⟨_, e _ (by simp) (by simp) (by simp only [Op.stringOp, bl_eq]; rfl), .bool _⟩
    case gtr => cases hv; exact ⟨_, e _ (by simp) (by simp) (by simp only [Op.stringOp, bl_eq]; rfl), .bool _⟩
    case geq => cases hv; exact ⟨_, e _ (by simp) (by simp) (by simp only [Op.stringOp, bl_eq]; rfl), .bool _⟩
    all_goals cases hv
  · rename_i h1 h2 h3 h4
    simp only [Option.map_eq_some_iff] at hv
    obtain ⟨b, hb, rfl⟩ := hv
    refine ⟨_, ?_, .bool _⟩
    have he := eqVals_sound (w := w) hb hx hy
    simp only [Sem.run_bind, eq_sound hb hx hy, Result.andThen_ok, binOp_eql (hx.eqKind.trans (eqKind_of hb)), he, Sem.run_pure]
  · rename_i h1 h2 h3 h4
    simp only [Option.map_eq_some_iff] at hv
    obtain ⟨b, hb, rfl⟩ := hv
    refine ⟨_, ?_, .bool _⟩
    have he := eqVals_sound (w := w) hb hx hy
    simp only [Sem.run_bind, eq_sound hb hx hy, Result.andThen_ok, binOp_neq (hx.eqKind.trans (eqKind_of hb)), he, Sem.run_pure]
  · cases hv

end
end Go.AX
